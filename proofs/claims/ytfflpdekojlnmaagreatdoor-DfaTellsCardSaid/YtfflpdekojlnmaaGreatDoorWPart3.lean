/- texts of one claim, one behind the other. -/
import Derived.Test.YtfflpdekojlnmaaGreatDoorWOpenX
import Derived.Test.YtfflpdekojlnmaaGreatDoorWDfaA
import Derived.Test.YtfflpdekojlnmaaGreatDoorWWaysP
import Derived.Test.YtfflpdekojlnmaaGreatDoorWAbsV
import Derived.Test.YtfflpdekojlnmaaGreatDoorWRef02
import Derived.Test.YtfflpdekojlnmaaGreatDoorWNfaR
import Derived.Test.YtfflpdekojlnmaaGreatDoorWLang
set_option linter.unusedSimpArgs false
set_option linter.unusedVariables false
set_option maxRecDepth 100000
set_option maxHeartbeats 16000000
open Bool renaming not_eq_true -> Vh, and_false -> Xj, false_and -> V4, and_true -> VZ, and_self -> WA, and_eq_true -> Vj, or_eq_true -> VJ
open List renaming foldl_cons -> V7, foldl_nil -> V8, replicate_succ -> Wc, replicate_zero -> Wd, getElem_mem -> VU, all_eq_true -> VH, getElem_of_mem -> Xk, length_cons -> UD, map_nil -> WI, length_nil -> Ux, take_succ_eq_append_getElem -> WG, take_of_length_le -> WK, mem_cons_of_mem -> Vv, getElem?_cons_succ -> VY, mem_cons -> VR, getD_eq_getElem?_getD -> Vq, getElem?_eq_getElem -> UM, range_succ -> WV, all_append -> Xl, mem_range -> VI, any_append -> Xm, any_eq_true -> Xo, getElem?_set_ne -> UT
open Nat renaming lt_or_ge -> UA, zero_add -> Vi, le_refl -> Ut, le_trans -> Uu
open Option.some renaming inj -> Us
namespace Go.Proofs.YtfflpdekojlnmaaGreatDoor
open Go.RowKit
def ck (x:Ex):Bool:=(ah x).all Ex.part
theorem wQ (k:Int) (s:ByteArray) (l:List Ex):ck (.mk k s l)=(bg k s l.length&&l.all ck):=by
 unfold ck;rw [ah,bf,List.all_cons,List.all_flatMap];rfl
theorem IT (x:Ex):(∀z,z∈ah x->z.kids.length<=1000000∧z.label.size<=1000000000000000)->ar Tryz.prog 67 [.agg (aN x)] (.v (.bool (ck x))):=by
 induction x using Ex.ind with
 | h k s l ih=>
  intro hz;have hs:l.length<=1000000∧s.size<=1000000000000000:=hz (.mk k s l) (by rw [ah];exact List.mem_cons_self);have hsub: ∀y,y∈l->ar Tryz.prog 67 [.agg (aN y)] (.v (.bool (ck y))):=fun y hy=>ih y hy (fun z hz'=>hz z (by rw [ah,bf];exact List.mem_cons_of_mem _ (List.mem_flatMap.2 ⟨_,hy,hz'⟩)));have F:=Hm s hs.2;rw [aD,wQ];simp only [Ex.kind,Ex.label,Ex.kids];refine gE Tryz.func67 Tryz.ntmps67 Tryz.results67 ?_
  (refine aw ?_;intro K hK)
  rcases (by by_cases a1:k=1<;>by_cases a2:k=2<;>by_cases a3:k=3<;>by_cases a4:k=4<;>by_cases a5:k=5<;>by_cases a6:k=6<;>simp_all:k=1∨k=2∨k=3∨k=4∨k=5∨k=6∨(k≠1∧k≠2∧k≠3∧k≠4∧k≠5∧k≠6)) with hk|hk|hk|hk|hk|hk|hk
  ·have e1:(k==1)=true:=by rw [beq_iff_eq];omega
   have e2:(k==2)=false:=by rw [<-Vh,beq_iff_eq];omega
   have e3:(k==3)=false:=by rw [<-Vh,beq_iff_eq];omega
   have e4:(k==4)=false:=by rw [<-Vh,beq_iff_eq];omega
   have e5:(k==5)=false:=by rw [<-Vh,beq_iff_eq];omega
   have e6:(k==6)=false:=by rw [<-Vh,beq_iff_eq];omega
   (revert K;refine qM e1 e2 e3 e4 e5 e6 ?_;intro K hK K hK K hK)
   refine ab.one F ?_
   ((iterate 3 revert K);refine qM e1 e2 e3 e4 e5 e6 ?_;intro K hK K hK K hK)
   cases hf:c8 s with
   | false=>
    ((iterate 3 revert K);refine vd hf ?_)
    rw [bg];simp only [e1,if_true,hf,Xj,V4]
   | true=>
    ((iterate 3 revert K);refine aM hf ?_)
    rcases Nat.eq_zero_or_pos l.length with q|q
    ·have e:l=[]:=List.eq_nil_of_length_eq_zero q;rw [e,bg];simp [e1,hf]
    ·have a:((l.length:Int)==0)=false:=by rw [<-Vh,beq_iff_eq];omega
     have b:decide (l.length=0)=false:=decide_eq_false (by omega);rw [a,bg];simp only [e1,if_true,b,V4]
  ·have e1:(k==1)=false:=by rw [<-Vh,beq_iff_eq];omega
   have e2:(k==2)=true:=by rw [beq_iff_eq];omega
   have e3:(k==3)=false:=by rw [<-Vh,beq_iff_eq];omega
   have e4:(k==4)=false:=by rw [<-Vh,beq_iff_eq];omega
   have e5:(k==5)=false:=by rw [<-Vh,beq_iff_eq];omega
   have e6:(k==6)=false:=by rw [<-Vh,beq_iff_eq];omega
   (revert K;refine qM e1 e2 e3 e4 e5 e6 ?_;intro K hK)
   refine bH.part (fun h0=> ?_) (fun h0=> ?_)
   ·have hl:l.length<2:=by replace h0:=bI h0;omega
    (revert K;refine aM h0 ?_)
    have hd:decide (1<l.length)=false:=decide_eq_false (by omega);rw [bg];simp [e1,e2,e3,hd]
   ·have hl:1<l.length:=by replace h0:=bI h0;omega
    (revert K;refine aM h0 ?_;intro K hK)
    refine cq (ι:=Nat) (fun i=>[(1, .ptr 0 0 3 0 0),(2, .v (.bool false)),(3, .v (.int .i64 i))]) (fun _=>[some ⟨25,3,false,[[.v (.int .i64 k), .v (.string s), .aC 3 (l.map aN) l.length]]⟩]) (fun i=>l.length - i) (fun i=>i<=l.length∧ ∀j (h:j<l.length),j<i->ck l[j]=true) 0 ⟨by omega,fun j _ h=>absurd h (by omega)⟩ ?_ ?_
    ·refine bo ?_ aj
     rfl
    ·rintro i ⟨hi,hP⟩ K hK;simp only [gq,V7,V8,Wc,Wd,go_sem]
     (revert K;revert K;refine aw ?_;intro K hK K hK K hK)
     refine bH.part (fun h=> ?_) (fun h=> ?_)
     ·have hlt:i<l.length:=by replace h:=bI h;omega
      have eW:=ak (k:=i) (by omega);have eG:=getD_map aN l i [] hlt;have C:=hsub l[i] (VU hlt);simp only [aD] at C eG
      repeat (first|(with_reducible first|refine aA.up ?_|refine fun (K:AK) hK=> ?_|(refine hK _ ?_;clear hK K))|simp only [go_sem,eG]|with_reducible refine wA ?_|clear hK K)
      refine ab.one C ?_
      ((iterate 5 revert K);refine aM eG ?_;intro K hK K hK K hK)
      refine bH.part (fun h5=> ?_) (fun h5=> ?_)
      ·((iterate 3 revert K);refine aM eW ?_)
       exact az.mk (i+1) ⟨by omega,fun j hj h3=>(by
        rcases UA j i with r|r
        ·exact hP j hj r
        ·have e:j=i:=by omega
         subst e
         exact h5)⟩ (by omega) (by exact aR aj)
      ·((iterate 3 revert K);refine aM h5 ?_)
       have e:l.all ck=false:=by
        rw [<-Vh,VH];intro hh;rw [hh _ (VU hlt)] at h5;cases h5
       rw [e,Xj]
     ·have he:i=l.length:=by replace h:=bI h;omega
      have e:l.all ck=true:=VH.2 (fun y hy=>by
       obtain ⟨j,hj,rfl⟩:=Xk hy
       exact hP j hj (by omega))
      ((iterate 3 revert K);refine aw ?_)
      rw [e,tk,VZ,bg];simp only [e1,e2,e3,e4,e5,e6];have hd:decide (1<l.length)=true:=decide_eq_true (by omega);simp [hd]
  ·have e1:(k==1)=false:=by rw [<-Vh,beq_iff_eq];omega
   have e2:(k==2)=false:=by rw [<-Vh,beq_iff_eq];omega
   have e3:(k==3)=true:=by rw [beq_iff_eq];omega
   have e4:(k==4)=false:=by rw [<-Vh,beq_iff_eq];omega
   have e5:(k==5)=false:=by rw [<-Vh,beq_iff_eq];omega
   have e6:(k==6)=false:=by rw [<-Vh,beq_iff_eq];omega
   (revert K;refine qM e1 e2 e3 e4 e5 e6 ?_;intro K hK)
   refine bH.part (fun h0=> ?_) (fun h0=> ?_)
   ·have hl:l.length<2:=by replace h0:=bI h0;omega
    (revert K;refine aM h0 ?_)
    have hd:decide (1<l.length)=false:=decide_eq_false (by omega);rw [bg];simp [e1,e2,e3,hd]
   ·have hl:1<l.length:=by replace h0:=bI h0;omega
    (revert K;refine aM h0 ?_;intro K hK)
    refine cq (ι:=Nat) (fun i=>[(1, .ptr 0 0 3 0 0),(2, .v (.bool false)),(3, .v (.int .i64 i))]) (fun _=>[some ⟨25,3,false,[[.v (.int .i64 k), .v (.string s), .aC 3 (l.map aN) l.length]]⟩]) (fun i=>l.length - i) (fun i=>i<=l.length∧ ∀j (h:j<l.length),j<i->ck l[j]=true) 0 ⟨by omega,fun j _ h=>absurd h (by omega)⟩ ?_ ?_
    ·refine bo ?_ aj
     rfl
    ·rintro i ⟨hi,hP⟩ K hK;simp only [gq,V7,V8,Wc,Wd,go_sem]
     (revert K;revert K;refine aw ?_;intro K hK K hK K hK)
     refine bH.part (fun h=> ?_) (fun h=> ?_)
     ·have hlt:i<l.length:=by replace h:=bI h;omega
      have eW:=ak (k:=i) (by omega);have eG:=getD_map aN l i [] hlt;have C:=hsub l[i] (VU hlt);simp only [aD] at C eG
      repeat (first|(with_reducible first|refine aA.up ?_|refine fun (K:AK) hK=> ?_|(refine hK _ ?_;clear hK K))|simp only [go_sem,eG]|with_reducible refine wA ?_|clear hK K)
      refine ab.one C ?_
      ((iterate 5 revert K);refine aM eG ?_;intro K hK K hK K hK)
      refine bH.part (fun h5=> ?_) (fun h5=> ?_)
      ·((iterate 3 revert K);refine aM eW ?_)
       exact az.mk (i+1) ⟨by omega,fun j hj h3=>(by
        rcases UA j i with r|r
        ·exact hP j hj r
        ·have e:j=i:=by omega
         subst e
         exact h5)⟩ (by omega) (by exact aR aj)
      ·((iterate 3 revert K);refine aM h5 ?_)
       have e:l.all ck=false:=by
        rw [<-Vh,VH];intro hh;rw [hh _ (VU hlt)] at h5;cases h5
       rw [e,Xj]
     ·have he:i=l.length:=by replace h:=bI h;omega
      have e:l.all ck=true:=VH.2 (fun y hy=>by
       obtain ⟨j,hj,rfl⟩:=Xk hy
       exact hP j hj (by omega))
      ((iterate 3 revert K);refine aw ?_)
      rw [e,tk,VZ,bg];simp only [e1,e2,e3,e4,e5,e6];have hd:decide (1<l.length)=true:=decide_eq_true (by omega);simp [hd]
  ·have e1:(k==1)=false:=by rw [<-Vh,beq_iff_eq];omega
   have e2:(k==2)=false:=by rw [<-Vh,beq_iff_eq];omega
   have e3:(k==3)=false:=by rw [<-Vh,beq_iff_eq];omega
   have e4:(k==4)=true:=by rw [beq_iff_eq];omega
   have e5:(k==5)=false:=by rw [<-Vh,beq_iff_eq];omega
   have e6:(k==6)=false:=by rw [<-Vh,beq_iff_eq];omega
   (revert K;refine qM e1 e2 e3 e4 e5 e6 ?_;intro K hK)
   refine bH.part (fun h0=> ?_) (fun h0=> ?_)
   ·have hl:l.length≠1:=by replace h0:=bI h0;omega
    (revert K;refine aM h0 ?_)
    have hd:decide (l.length=1)=false:=decide_eq_false hl;rw [bg];simp [e1,e2,e3,e4,e5,e6,hd]
   ·have hl:l.length=1:=by replace h0:=bI h0;omega
    (revert K;refine aM h0 ?_;intro K hK)
    refine cq (ι:=Nat) (fun i=>[(1, .ptr 0 0 3 0 0),(2, .v (.bool false)),(3, .v (.int .i64 i))]) (fun _=>[some ⟨25,3,false,[[.v (.int .i64 k), .v (.string s), .aC 3 (l.map aN) l.length]]⟩]) (fun i=>l.length - i) (fun i=>i<=l.length∧ ∀j (h:j<l.length),j<i->ck l[j]=true) 0 ⟨by omega,fun j _ h=>absurd h (by omega)⟩ ?_ ?_
    ·refine bo ?_ aj
     rfl
    ·rintro i ⟨hi,hP⟩ K hK;simp only [gq,V7,V8,Wc,Wd,go_sem]
     (revert K;revert K;refine aw ?_;intro K hK K hK K hK)
     refine bH.part (fun h=> ?_) (fun h=> ?_)
     ·have hlt:i<l.length:=by replace h:=bI h;omega
      have eW:=ak (k:=i) (by omega);have eG:=getD_map aN l i [] hlt;have C:=hsub l[i] (VU hlt);simp only [aD] at C eG
      repeat (first|(with_reducible first|refine aA.up ?_|refine fun (K:AK) hK=> ?_|(refine hK _ ?_;clear hK K))|simp only [go_sem,eG]|with_reducible refine wA ?_|clear hK K)
      refine ab.one C ?_
      ((iterate 5 revert K);refine aM eG ?_;intro K hK K hK K hK)
      refine bH.part (fun h5=> ?_) (fun h5=> ?_)
      ·((iterate 3 revert K);refine aM eW ?_)
       exact az.mk (i+1) ⟨by omega,fun j hj h3=>(by
        rcases UA j i with r|r
        ·exact hP j hj r
        ·have e:j=i:=by omega
         subst e
         exact h5)⟩ (by omega) (by exact aR aj)
      ·((iterate 3 revert K);refine aM h5 ?_)
       have e:l.all ck=false:=by
        rw [<-Vh,VH];intro hh;rw [hh _ (VU hlt)] at h5;cases h5
       rw [e,Xj]
     ·have he:i=l.length:=by replace h:=bI h;omega
      have e:l.all ck=true:=VH.2 (fun y hy=>by
       obtain ⟨j,hj,rfl⟩:=Xk hy
       exact hP j hj (by omega))
      ((iterate 3 revert K);refine aw ?_)
      rw [e,tk,VZ,bg];simp only [e1,e2,e3,e4,e5,e6];have hd:decide (l.length=1)=true:=decide_eq_true (by omega);simp [hd]
  ·have e1:(k==1)=false:=by rw [<-Vh,beq_iff_eq];omega
   have e2:(k==2)=false:=by rw [<-Vh,beq_iff_eq];omega
   have e3:(k==3)=false:=by rw [<-Vh,beq_iff_eq];omega
   have e4:(k==4)=false:=by rw [<-Vh,beq_iff_eq];omega
   have e5:(k==5)=true:=by rw [beq_iff_eq];omega
   have e6:(k==6)=false:=by rw [<-Vh,beq_iff_eq];omega
   (revert K;refine qM e1 e2 e3 e4 e5 e6 ?_;intro K hK)
   refine bH.part (fun h0=> ?_) (fun h0=> ?_)
   ·have hl:l.length≠1:=by replace h0:=bI h0;omega
    (revert K;refine aM h0 ?_)
    have hd:decide (l.length=1)=false:=decide_eq_false hl;rw [bg];simp [e1,e2,e3,e4,e5,e6,hd]
   ·have hl:l.length=1:=by replace h0:=bI h0;omega
    (revert K;refine aM h0 ?_;intro K hK)
    refine cq (ι:=Nat) (fun i=>[(1, .ptr 0 0 3 0 0),(2, .v (.bool false)),(3, .v (.int .i64 i))]) (fun _=>[some ⟨25,3,false,[[.v (.int .i64 k), .v (.string s), .aC 3 (l.map aN) l.length]]⟩]) (fun i=>l.length - i) (fun i=>i<=l.length∧ ∀j (h:j<l.length),j<i->ck l[j]=true) 0 ⟨by omega,fun j _ h=>absurd h (by omega)⟩ ?_ ?_
    ·refine bo ?_ aj
     rfl
    ·rintro i ⟨hi,hP⟩ K hK;simp only [gq,V7,V8,Wc,Wd,go_sem]
     (revert K;revert K;refine aw ?_;intro K hK K hK K hK)
     refine bH.part (fun h=> ?_) (fun h=> ?_)
     ·have hlt:i<l.length:=by replace h:=bI h;omega
      have eW:=ak (k:=i) (by omega);have eG:=getD_map aN l i [] hlt;have C:=hsub l[i] (VU hlt);simp only [aD] at C eG
      repeat (first|(with_reducible first|refine aA.up ?_|refine fun (K:AK) hK=> ?_|(refine hK _ ?_;clear hK K))|simp only [go_sem,eG]|with_reducible refine wA ?_|clear hK K)
      refine ab.one C ?_
      ((iterate 5 revert K);refine aM eG ?_;intro K hK K hK K hK)
      refine bH.part (fun h5=> ?_) (fun h5=> ?_)
      ·((iterate 3 revert K);refine aM eW ?_)
       exact az.mk (i+1) ⟨by omega,fun j hj h3=>(by
        rcases UA j i with r|r
        ·exact hP j hj r
        ·have e:j=i:=by omega
         subst e
         exact h5)⟩ (by omega) (by exact aR aj)
      ·((iterate 3 revert K);refine aM h5 ?_)
       have e:l.all ck=false:=by
        rw [<-Vh,VH];intro hh;rw [hh _ (VU hlt)] at h5;cases h5
       rw [e,Xj]
     ·have he:i=l.length:=by replace h:=bI h;omega
      have e:l.all ck=true:=VH.2 (fun y hy=>by
       obtain ⟨j,hj,rfl⟩:=Xk hy
       exact hP j hj (by omega))
      ((iterate 3 revert K);refine aw ?_)
      rw [e,tk,VZ,bg];simp only [e1,e2,e3,e4,e5,e6];have hd:decide (l.length=1)=true:=decide_eq_true (by omega);simp [hd]
  ·have e1:(k==1)=false:=by rw [<-Vh,beq_iff_eq];omega
   have e2:(k==2)=false:=by rw [<-Vh,beq_iff_eq];omega
   have e3:(k==3)=false:=by rw [<-Vh,beq_iff_eq];omega
   have e4:(k==4)=false:=by rw [<-Vh,beq_iff_eq];omega
   have e5:(k==5)=false:=by rw [<-Vh,beq_iff_eq];omega
   have e6:(k==6)=true:=by rw [beq_iff_eq];omega
   (revert K;refine qM e1 e2 e3 e4 e5 e6 ?_;intro K hK)
   refine bH.part (fun h0=> ?_) (fun h0=> ?_)
   ·have hl:l.length≠1:=by replace h0:=bI h0;omega
    (revert K;refine aM h0 ?_)
    have hd:decide (l.length=1)=false:=decide_eq_false hl;rw [bg];simp [e1,e2,e3,e4,e5,e6,hd]
   ·have hl:l.length=1:=by replace h0:=bI h0;omega
    (revert K;refine aM h0 ?_;intro K hK)
    refine cq (ι:=Nat) (fun i=>[(1, .ptr 0 0 3 0 0),(2, .v (.bool false)),(3, .v (.int .i64 i))]) (fun _=>[some ⟨25,3,false,[[.v (.int .i64 k), .v (.string s), .aC 3 (l.map aN) l.length]]⟩]) (fun i=>l.length - i) (fun i=>i<=l.length∧ ∀j (h:j<l.length),j<i->ck l[j]=true) 0 ⟨by omega,fun j _ h=>absurd h (by omega)⟩ ?_ ?_
    ·refine bo ?_ aj
     rfl
    ·rintro i ⟨hi,hP⟩ K hK;simp only [gq,V7,V8,Wc,Wd,go_sem]
     (revert K;revert K;refine aw ?_;intro K hK K hK K hK)
     refine bH.part (fun h=> ?_) (fun h=> ?_)
     ·have hlt:i<l.length:=by replace h:=bI h;omega
      have eW:=ak (k:=i) (by omega);have eG:=getD_map aN l i [] hlt;have C:=hsub l[i] (VU hlt);simp only [aD] at C eG
      repeat (first|(with_reducible first|refine aA.up ?_|refine fun (K:AK) hK=> ?_|(refine hK _ ?_;clear hK K))|simp only [go_sem,eG]|with_reducible refine wA ?_|clear hK K)
      refine ab.one C ?_
      ((iterate 5 revert K);refine aM eG ?_;intro K hK K hK K hK)
      refine bH.part (fun h5=> ?_) (fun h5=> ?_)
      ·((iterate 3 revert K);refine aM eW ?_)
       exact az.mk (i+1) ⟨by omega,fun j hj h3=>(by
        rcases UA j i with r|r
        ·exact hP j hj r
        ·have e:j=i:=by omega
         subst e
         exact h5)⟩ (by omega) (by exact aR aj)
      ·((iterate 3 revert K);refine aM h5 ?_)
       have e:l.all ck=false:=by
        rw [<-Vh,VH];intro hh;rw [hh _ (VU hlt)] at h5;cases h5
       rw [e,Xj]
     ·have he:i=l.length:=by replace h:=bI h;omega
      have e:l.all ck=true:=VH.2 (fun y hy=>by
       obtain ⟨j,hj,rfl⟩:=Xk hy
       exact hP j hj (by omega))
      ((iterate 3 revert K);refine aw ?_)
      rw [e,tk,VZ,bg];simp only [e1,e2,e3,e4,e5,e6];have hd:decide (l.length=1)=true:=decide_eq_true (by omega);simp [hd]
  ·have e1:(k==1)=false:=by rw [<-Vh,beq_iff_eq];omega
   have e2:(k==2)=false:=by rw [<-Vh,beq_iff_eq];omega
   have e3:(k==3)=false:=by rw [<-Vh,beq_iff_eq];omega
   have e4:(k==4)=false:=by rw [<-Vh,beq_iff_eq];omega
   have e5:(k==5)=false:=by rw [<-Vh,beq_iff_eq];omega
   have e6:(k==6)=false:=by rw [<-Vh,beq_iff_eq];omega
   (revert K;refine qM e1 e2 e3 e4 e5 e6 ?_)
   rw [bg];simp [e1,e2,e3,e4,e5,e6]
theorem mY (x:Ex) (h1:(ah x).length<=1000000) (hz: ∀z,z∈ah x->z.kids.length<=1000000∧z.label.size<=1000000000000000):ar Tryz.prog 36 [.agg (aN x)] (.v (.bool (ay x))):=by
 have S:=Jv x h1;have T:=IT x hz;have e:ay x=(decide ((ah x).length<=24)&&ck x):=rfl;rw [e];simp only [aD] at S T ⊢;refine gE Tryz.func36 Tryz.ntmps36 Tryz.results36 ?_
 (refine bq ?_;intro K hK K hK)
 refine ab.one S ?_
 (revert K;revert K;refine bq ?_;intro K hK K hK)
 refine bH.part (fun h=> ?_) (fun h=> ?_)
 ·(revert K;revert K;refine Hs h ?_;intro K hK K hK)
  refine ab.one T ?_
  (revert K;revert K;refine Hs h ?_)
  have hd:decide ((ah x).length<=24)=true:=by (try simp only [decide_eq_true_eq,decide_eq_false_iff_not] at h);exact decide_eq_true (by omega)
  rw [hd,Bool.true_and]
 ·(revert K;revert K;refine lE h ?_)
  have hd:decide ((ah x).length<=24)=false:=by (try simp only [decide_eq_true_eq,decide_eq_false_iff_not] at h);exact decide_eq_false (by omega)
  rw [hd,V4]
theorem c7.J6 {P:Program} {f:FuncId} {args:List AV} {r0 r:AV} {o':List (Option aa)} (h:c7 P f args [] r0 o') (ha:aV 0 args=true) (hr:r.wf 0=true) (hz:oH o' r0 r):kf P f args r:=by
 obtain ⟨hc,h2⟩:=h;refine ⟨⟨ha,hr⟩,hc,fun D nu w vargs hro hra=>(h2 D nu w vargs hro hra).mono ?_⟩;rintro e w' ⟨v,nu',o2,r2,rfl,hm,hro',hra',rfl,rfl⟩;refine ⟨v,rfl,⟨hm.os,hm.tape,hm.output,hm.size,fun b hb=>(hm.keep b hb (bd _ _)).1⟩,(hz _ _ _ _ hro' hra').tr (n:=0) (fun b hf=>⟨hf.1,bd _ _, ?_⟩) (fun id len hlt=>by omega) hr⟩
 rcases Nat.lt_or_ge b w.heap.size with q|q
 ·exact absurd hf.2.2 (hm.keep b q (bd _ _)).2
 ·exact q
theorem pb (n:Nat) (hn:n<=1000):ar Tryz.prog 165 [.v (.int .i64 n)] (.aC 1 (j8 (n+1) (fun _ _=>false)) (n+1)):=
 ((zF n hn).J6 rfl (by simp only [AV.wf,er]) (o9 _ _)).OF
theorem vG {k N m i:Nat} {f:Nat->Nat->Bool} {b x:Option aa} (h:i<m):(b :: x :: aT N f m)[j5 1 i]? = some (jA N (f i)):=by
 rw [show j5 1 i=j5 0 i+1 by unfold j5;omega,List.getElem?_cons_succ];exact kD (k:=k) h
theorem Fq {N m i j:Nat} {f:Nat->Nat->Bool} {v:Bool} {b x:Option aa} (h:i<m):(b :: x :: aT N f m).set (j5 1 i) (some ⟨4,1,true,(cM N (f i)).set j [.v (.bool v)]⟩)=b :: x :: aT N (lv f i j v) m:=by
 rw [show j5 1 i=j5 0 i+1 by unfold j5;omega,List.set_cons_succ,ml h]
theorem OK {n k N m:Nat} {f:Nat->Nat->Bool} {b:Option aa} (hb: ∀ob,b=some ob->bw n ob.rows=true) (h:k+2 * m<=n):j7 n (b :: bN k N m f) (b :: bN k N m f):=⟨.inr ⟨rfl,hb⟩,AD h⟩
theorem MZ {t t':List AV} {y:jo} {N m:Nat} {f:Nat->Nat->Bool} {b:Option aa} (hb: ∀n ob,b=some ob->bw n ob.rows=true) (h:di (2 * m+2) t t'):Wk 0 ⟨t,b :: some ⟨54,1,true,aX 1 N m⟩ :: aT N f m,y⟩ ⟨t',b :: bN 1 N m f,y⟩:=by
 have e:(b :: bN 1 N m f).length=2 * m+2:=by rw [UD,gd]
 exact aj (by rw [e];exact h) (by rw [e];exact OK (hb _) (by omega)) (Nat.zero_le _)
theorem Fo (b:Option aa) (N:Nat) (f:Nat->Nat->Bool):oH (b :: bN 1 N N f) (.vec 1 N) (.aC 1 (j8 N f) N):=by
 refine oH.Mk (ob:=⟨54,1,true,aX 1 N N⟩) rfl rfl (cH _ _ _) (by rw [ry];exact (cH _ _ _).symm) fun i row row' h1 h2=> ?_
 have hi:i<N:=by have:=(List.getElem?_eq_some_iff.1 h1).1;rw [cH] at this;exact this
 have e1:(aX 1 N N)[i]? = some [.vec (j5 1 i) N]:=by rw [aX,List.getElem?_map,List.getElem?_range hi];rfl
 have e2:(j8 N f)[i]? = some [.aC 1 (cM N (f i)) N]:=by rw [j8,List.getElem?_map,List.getElem?_range hi];rfl
 cases (Us (e1.symm.trans h1));cases (Us (e2.symm.trans h2));refine ⟨rfl,fun j c c' k1 k2=> ?_⟩
 match j,k1,k2 with
 | 0,k1,k2=>
  cases k1;cases k2;exact oH.vec (ob:=⟨4,1,true,cM N (f i)⟩) (vG (k:=0) hi) rfl (iZ _ _) (vM _ (fun s c hc=>by rw [List.mem_singleton] at hc;exact ⟨_,hc⟩) _)
 | j+1,k1,k2=>simp at k1
def iH (w:List ByteArray) (x:Ex):Prop:=ar Tryz.prog 150 [.agg (aN x),ba w] (.aC 1 (j8 (w.length+1) (gr (Lg x) w)) (w.length+1))
theorem JS (w:List ByteArray) (hw:w.length<=1000) (s:ByteArray):iH w (.mk 1 s []):=by
 have hd:decide (1<2 * (w.length+1)+2)=true:=decide_eq_true (by omega);have hd0:decide (0<2 * (w.length+1)+2)=true:=decide_eq_true (by omega)
 have eL:gr (Lg (.mk 1 s [])) w=gr (fun u=>u=[s]) w:=gS fun u _=>by simp [Lg]
 rw [iH,eL, <- NZ];simp only [aD,ba,Ex.kind,Ex.label,Ex.kids,WI,Ux];refine kf.OF ?_
 (refine kf.enter Tryz.func150 rfl (by kernel_rfl) (by kernel_rfl) rfl (by simp only [go_sem,aV,AV.wf,WA,Bool.and_true,Bool.true_and,Go.undef]) (by simp only [go_sem,aV,AV.wf,a7,WA,Bool.and_true,Bool.true_and,Go.undef]) ?_;simp only [Tryz.ntmps150,Tryz.results150,UD,Ux,Nat.reduceAdd,Nat.reduceSub,List.replicate_succ,List.replicate_zero,List.cons_append,List.nil_append])
 (refine dO ?_;intro K hK K hK)
 refine ab.xL hw ?_;simp only [UD,Ux,List.cons_append,List.nil_append,Vi]
 (revert K;revert K;refine dO ?_;intro K hK)
 refine aQ (ι:=Nat) 20 (fun i=>[(7, .v (.int .i64 i))]) (fun i=>some ⟨25,3,false,[[.v (.int .i64 1), .v (.string s), .aC 3 [] 0]]⟩ :: bN 1 (w.length+1) (w.length+1) (iB w s i)) (fun i=>w.length - i) (fun i=>i<=w.length) 0 (by omega) ?_ ?_
 ·rw [Il w s];refine MZ (fun n ob e=>by cases e;rfl) ?_;simp only [go_sem,di,true_or,or_true,true_and,and_true,hd,hd0];exact .inr rfl
 ·intro i hi K hK;simp only [bN]
  (revert K;revert K;refine dO ?_;intro K hK K hK K hK)
  refine bH.part (fun h=> ?_) (fun h=> ?_)
  ·have hlt:i<w.length:=by replace h:=bI h;omega
   have hlt1:i<w.length+1:=by omega
   have hlt2:i+1<w.length+1:=by omega
   have eW:=ak (k:=i) (by omega);have eO:=jx (k:=1) (N:=w.length+1) hlt1;have hO: ∀b x,(b :: x :: aT (w.length+1) (iB w s i) (w.length+1))[j5 1 i]? = _:=fun b x=>vG (k:=0) (b:=b) (x:=x) hlt1
   have eG:(w.map encS).getD i []=[.v (.string (w.getD i ⟨#[]⟩))]:=by
    rw [getD_map encS w i [] hlt,encS,List.getD_eq_getElem?_getD,List.getElem?_eq_getElem hlt];rfl
   have eR:=cR (g:=iB w s i i) hlt2;have eS:=fun b x v=>Fq (N:=w.length+1) (j:=i+1) (f:=iB w s i) (v:=v) (b:=b) (x:=x) hlt1;have eU:=zp w s i
   repeat (first|(with_reducible first|refine aA.up ?_|refine fun (K:AK) hK=> ?_|refine wE ?_|refine wK ?_|refine wF ?_|(refine hK _ ?_;clear hK K))|simp only [go_sem,eW,eO,hO,eG,jA,eR,eS,eU]|with_reducible refine wA ?_|clear hK K)
   refine az.mk (i+1) (by omega) (by omega) (MZ (fun n ob e=>by cases e;rfl) ?_);simp only [go_sem,di,true_or,or_true,true_and,and_true,hd,hd0]
  ·have e1:i=w.length:=by replace h:=bI h;omega
   simp only [e1]
   ((iterate 3 revert K);refine dO ?_)
   exact Fo _ _ _
theorem JU (w:List ByteArray) (hw:w.length<=1000) (s:ByteArray) (l:List Ex) (hl:l.length<=1000000) (H: ∀x,x∈l->iH w x):iH w (.mk 2 s l):=by
 have N:=pb w.length hw;have S:=qB w.length hw
 have eL:gr (Lg (.mk 2 s l)) w=gr (cP l) w:=gS fun u _=>by simp [Lg]
 have e0:gr (fun u=>u=[]) w=gr (cP (l.take 0)) w:=gS fun u _=>by simp [cP]
 rw [th,e0] at S;have H2:=fun x hx=>H x hx;simp only [iH] at H2 ⊢;rw [eL];simp only [aD,ba,Ex.kind,Ex.label,Ex.kids] at H2 ⊢;refine gE Tryz.func150 Tryz.ntmps150 Tryz.results150 ?_
 (refine aw ?_;intro K hK K hK)
 refine ab.one N ?_
 (revert K;revert K;refine aw ?_;intro K hK K hK K hK)
 refine ab.one S ?_
 ((iterate 3 revert K);refine aw ?_;intro K hK)
 refine bz (ι:=Nat) 43 (fun k=>[(6, .aC 1 (j8 (w.length+1) (gr (cP (l.take k)) w)) (w.length+1)),(8, .v (.int .i64 k))]) (fun k=>l.length - k) (fun k=>k<=l.length) 0 (by omega) ?_ ?_
 ·refine bo ?_ aj
  rfl
 ·intro k hk K hK
  (revert K;revert K;refine aw ?_;intro K hK K hK K hK)
  refine bH.part (fun h=> ?_) (fun h=> ?_)
  ·have hlt:k<l.length:=by replace h:=oE h;omega
   have eW:=ak (k:=k) (by omega);have eG:=getD_map aN l k [] hlt;have HX:=H2 l[k] (List.getElem_mem hlt);have J:=nY w.length (gr (cP (l.take k)) w) (gr (Lg l[k]) w) hw
   have eM:gr (fun u=> ∃a b,u=a++b∧cP (l.take k) a∧Lg l[k] b) w=gr (cP (l.take (k+1))) w:=gS fun u _=>by
    rw [WG hlt,AX]
   rw [xI,eM] at J;simp only [aD] at eG
   repeat (first|(with_reducible first|refine aA.up ?_|refine fun (K:AK) hK=> ?_|(refine hK _ ?_;clear hK K))|simp only [go_sem,eG]|with_reducible refine wA ?_|clear hK K)
   refine ab.one HX ?_
   ((iterate 4 revert K);refine aw ?_;iterate 4 intro K hK)
   refine ab.one J ?_
   ((iterate 4 revert K);refine aM eW ?_)
   exact az.mk (k+1) (by omega) (by omega) (by exact aR aj)
  ·have e1:l.take k=l:=WK (by replace h:=oE h;omega);simp only [e1]
   ((iterate 3 revert K);refine aw ?_)
   exact jm.aC (er _ _ _)
theorem JR (w:List ByteArray) (hw:w.length<=1000) (s:ByteArray) (l:List Ex) (hl:l.length<=1000000) (H: ∀x,x∈l->iH w x):iH w (.mk 3 s l):=by
 have N:=pb w.length hw
 have eL:gr (Lg (.mk 3 s l)) w=gr (gX l) w:=gS fun u _=>by simp [Lg]
 have e0:gr (fun _=>False) w=gr (gX (l.take 0)) w:=gS fun u _=>by simp [gX]
 rw [LA,e0] at N;have H2:=fun x hx=>H x hx;simp only [iH] at H2 ⊢;rw [eL];simp only [aD,ba,Ex.kind,Ex.label,Ex.kids] at H2 ⊢;refine gE Tryz.func150 Tryz.ntmps150 Tryz.results150 ?_
 (refine aw ?_;intro K hK K hK)
 refine ab.one N ?_
 (revert K;revert K;refine aw ?_;intro K hK)
 refine bz (ι:=Nat) 61 (fun k=>[(6, .aC 1 (j8 (w.length+1) (gr (gX (l.take k)) w)) (w.length+1)),(9, .v (.int .i64 k))]) (fun k=>l.length - k) (fun k=>k<=l.length) 0 (by omega) ?_ ?_
 ·refine bo ?_ aj
  rfl
 ·intro k hk K hK
  (revert K;revert K;refine aw ?_;intro K hK K hK K hK)
  refine bH.part (fun h=> ?_) (fun h=> ?_)
  ·have hlt:k<l.length:=by replace h:=oE h;omega
   have eW:=ak (k:=k) (by omega);have eG:=getD_map aN l k [] hlt;have HX:=H2 l[k] (List.getElem_mem hlt);have J:=nP w.length (gr (gX (l.take k)) w) (gr (Lg l[k]) w) hw
   have eM:gr (fun u=>gX (l.take k) u∨Lg l[k] u) w=gr (gX (l.take (k+1))) w:=gS fun u _=>by
    rw [WG hlt,AW]
   rw [IE,eM] at J;simp only [aD] at eG
   repeat (first|(with_reducible first|refine aA.up ?_|refine fun (K:AK) hK=> ?_|(refine hK _ ?_;clear hK K))|simp only [go_sem,eG]|with_reducible refine wA ?_|clear hK K)
   refine ab.one HX ?_
   ((iterate 4 revert K);refine aw ?_;iterate 4 intro K hK)
   refine ab.one J ?_
   ((iterate 4 revert K);refine aM eW ?_)
   exact az.mk (k+1) (by omega) (by omega) (by exact aR aj)
  ·have e1:l.take k=l:=WK (by replace h:=oE h;omega);simp only [e1]
   ((iterate 3 revert K);refine aw ?_)
   exact jm.aC (er _ _ _)
theorem JT (w:List ByteArray) (hw:w.length<=1000) (s:ByteArray) (x:Ex) (H:iH w x):iH w (.mk 6 s [x]):=by
 have N:=pb w.length hw;have S:=qB w.length hw;have O:=nP w.length (gr (fun u=>u=[]) w) (gr (Lg x) w) hw
 have eL:gr (fun u=>u=[]∨Lg x u) w=gr (Lg (.mk 6 s [x])) w:=gS fun u _=>by simp [Lg,rK]
 rw [IE,eL] at O;rw [th] at S;simp only [iH] at H ⊢;simp only [aD,ba,Ex.kind,Ex.label,Ex.kids,List.map_cons,WI,UD,Ux,Vi] at H ⊢;refine gE Tryz.func150 Tryz.ntmps150 Tryz.results150 ?_
 (refine ez ?_;intro K hK K hK)
 refine ab.one N ?_
 (revert K;revert K;refine ez ?_;intro K hK K hK)
 refine bj.one S ?_
 repeat (first|(with_reducible first|refine aA.up ?_|refine fun (K:AK) hK=> ?_|refine wD ?_|(refine hK _ ?_;clear hK K))|simp only [go_sem]|with_reducible refine wA ?_|clear hK K)
 refine bj.one H ?_
 (revert K;revert K;refine ez ?_;intro K hK K hK)
 refine bj.one O ?_
 (revert K;revert K;refine ez ?_)
 exact jm.aC (er _ _ _)
theorem wc (w:List ByteArray) (hw:w.length<=1000) (kd:Int) (hk:kd=4∨kd=5) (s:ByteArray) (x:Ex) (H:iH w x):iH w (.mk kd s [x]):=by
 have N:=pb w.length hw;have S:=qB w.length hw;have O:=nP w.length (gr (fun u=>u=[]) w) (gr (Lg x) w) hw;have e1:gr (fun u=>u=[]∨Lg x u) w=gr (c9 (Lg x) 1) w:=gS fun u _=>c9.one.symm;rw [IE,e1] at O;rw [th] at S;have J:=fun k=>nY w.length (gr (c9 (Lg x) k) w) (gr (c9 (Lg x) k) w) hw;have e2: ∀k,gr (fun u=> ∃a b,u=a++b∧c9 (Lg x) k a∧c9 (Lg x) k b) w=gr (c9 (Lg x) (k+k)) w:=fun k=>gS fun u _=>c9.add.symm;simp only [xI,e2] at J;have P:=nY w.length (gr (Lg x) w) (gr (cW (Lg x)) w) hw
 have e5:gr (fun u=> ∃a b,u=a++b∧Lg x a∧cW (Lg x) b) w=gr (Lg (.mk 5 s [x])) w:=gS fun u _=>by simp [Lg,rK]
 have e4:gr (cW (Lg x)) w=gr (Lg (.mk 4 s [x])) w:=gS fun u _=>by
  have:rK [x]=Lg x:=by funext v;rw [rK]
  simp [Lg,this]
 have eP: ∀k,w.length<=k->gr (c9 (Lg x) k) w=gr (cW (Lg x)) w:=fun k hk=>gS fun u hu=>I3 (by omega);rw [xI,e5] at P;simp only [iH] at H ⊢
 rcases hk with rfl|rfl
 all_goals
  simp only [aD,ba,Ex.kind,Ex.label,Ex.kids,List.map_cons,WI,UD,Ux,Vi] at H ⊢;refine gE Tryz.func150 Tryz.ntmps150 Tryz.results150 ?_
  repeat (first|(with_reducible first|refine aA.up ?_|refine fun (K:AK) hK=> ?_|(refine hK _ ?_;clear hK K))|simp only [go_sem]|with_reducible refine wA ?_|clear hK K)
  refine ab.one N ?_
  repeat (first|(with_reducible first|refine aA.up ?_|refine fun (K:AK) hK=> ?_|(refine hK _ ?_;clear hK K))|simp only [go_sem]|with_reducible refine wA ?_|clear hK K)
  refine ab.one H ?_
  repeat (first|(with_reducible first|refine aA.up ?_|refine fun (K:AK) hK=> ?_|(refine hK _ ?_;clear hK K))|simp only [go_sem]|with_reducible refine wA ?_|clear hK K)
  refine ab.one S ?_
  repeat (first|(with_reducible first|refine aA.up ?_|refine fun (K:AK) hK=> ?_|(refine hK _ ?_;clear hK K))|simp only [go_sem]|with_reducible refine wA ?_|clear hK K)
  refine ab.one O ?_
  repeat (first|(with_reducible first|refine aA.up ?_|refine fun (K:AK) hK=> ?_|(refine hK _ ?_;clear hK K))|simp only [go_sem]|with_reducible refine wA ?_|clear hK K)
  refine bz (ι:=Nat) 101 (fun k=>[(6, .aC 1 (j8 (w.length+1) (gr (c9 (Lg x) k) w)) (w.length+1)),(11, .v (.int .i64 k))]) (fun k=>w.length - k) (fun k=>1<=k∧k<=2 * w.length+1) 1 (by omega) ?_ ?_
  ·refine bo ?_ aj
   rfl
  ·rintro k ⟨hk1,hk2⟩ K hK
   repeat (first|(with_reducible first|refine aA.up ?_|refine fun (K:AK) hK=> ?_|(refine hK _ ?_;clear hK K))|simp only [go_sem]|with_reducible refine wA ?_|clear hK K)
   refine bH.part (fun h=> ?_) (fun h=> ?_)
   ·have hlt:k<w.length:=by replace h:=oE h;omega
    have eW:IntKind.i64.wrap (2 * (k:Int))=((k+k:Nat):Int):=by rw [cF (by omega) (by omega)];omega
    have Jk:=J k
    repeat (first|(with_reducible first|refine aA.up ?_|refine fun (K:AK) hK=> ?_|(refine hK _ ?_;clear hK K))|simp only [go_sem]|with_reducible refine wA ?_|clear hK K)
    refine ab.one Jk ?_
    repeat (first|(with_reducible first|refine aA.up ?_|refine fun (K:AK) hK=> ?_|(refine hK _ ?_;clear hK K))|simp only [go_sem,eW]|with_reducible refine wA ?_|clear hK K)
    exact az.mk (k+k) ⟨by omega,by omega⟩ (by omega) (by exact aR aj)
   ·rw [eP k (by replace h:=oE h;omega)]
    repeat (first|(with_reducible first|refine aA.up ?_|refine fun (K:AK) hK=> ?_|(refine hK _ ?_;clear hK K))|simp only [go_sem]|with_reducible refine wA ?_|clear hK K)
    first
     | ((refine ab.one P ?_);((revert K;revert K;refine aw ?_));(exact jm.aC (er _ _ _)))
     | (rw [e4];exact jm.aC (er _ _ _))
theorem OJ (w:List ByteArray) (hw:w.length<=1000) {x:Ex} (h:Fit x) (hx:(ah x).length<=1000000):iH w x:=by
 induction h with
 | lab s=>exact JS w hw s
 | many k s l hk hl _ ih=>
  have hl2:=jP (.mk k s l);simp only [Ex.kids] at hl2
  have sub: ∀y,y∈l->(ah y).length<=1000000:=fun y hy=>by
   have:=fJ (.mk k s l) y (by rw [ah,bf];exact Vv _ (List.mem_flatMap.2 ⟨y,hy,by obtain ⟨k',s',l'⟩:=y;rw [ah];exact List.mem_cons_self⟩))
   omega
  rcases hk with rfl|rfl
  ·exact JU w hw s l (by omega) (fun y hy=>ih y hy (sub y hy))
  ·exact JR w hw s l (by omega) (fun y hy=>ih y hy (sub y hy))
 | one k s y hk _ ih=>
  have sub:(ah y).length<=1000000:=by
   have:=fJ (.mk k s [y]) y (by rw [ah,bf];exact Vv _ (List.mem_flatMap.2 ⟨y,by simp,by obtain ⟨k',s',l'⟩:=y;rw [ah];exact List.mem_cons_self⟩))
   omega
  rcases hk with rfl|rfl|rfl
  ·exact wc w hw 4 (.inl rfl) s y (ih sub)
  ·exact wc w hw 5 (.inr rfl) s y (ih sub)
  ·exact JT w hw s y (ih sub)
theorem FY (x:Ex) (w:List ByteArray) (hw:w.length<=1000) (h1:(ah x).length<=1000000) (hz: ∀z,z∈ah x->z.kids.length<=1000000∧z.label.size<=1000000000000000):ar Tryz.prog 133 [.agg (aN x),ba w] (.v (.bool (jN x w))):=by
 have R:=mY x h1 hz
 cases hr:ay x
 ·have e:jN x w=false:=by rw [<-Bool.not_eq_true,ig];simp [hr]
  rw [hr] at R;rw [e];simp only [aD,ba] at R ⊢;refine gE Tryz.func133 Tryz.ntmps133 Tryz.results133 ?_
  (refine aw ?_;intro K hK K hK K hK)
  refine ab.one R ?_
  ((iterate 3 revert K);exact vj)
 ·have W:=OJ w hw (dC hr).1 h1
  have e:jN x w=gr (Lg x) w 0 w.length:=by
   rw [Bool.eq_iff_iff,ig,dK,Tk.word];simp [hr]
  have eA:=qi (N:=w.length+1) (f:=gr (Lg x) w) (i:=0) (by omega);have eB:=cR (N:=w.length+1) (g:=gr (Lg x) w 0) (j:=w.length) (by omega);rw [hr] at R;rw [e];simp only [iH,aD,ba] at R W ⊢;refine gE Tryz.func133 Tryz.ntmps133 Tryz.results133 ?_
  (refine aw ?_;intro K hK K hK K hK)
  refine ab.one R ?_
  ((iterate 3 revert K);refine aw ?_;intro K hK K hK)
  refine ab.one W ?_
  (revert K;revert K;exact Hy eA eB)
theorem yZ (x:Ex):jN x []=dk x:=by
 rw [Bool.eq_iff_iff,ig,dk,Bool.and_eq_true]
 constructor
 ·rintro ⟨h,k⟩;exact ⟨h,(fG (dC h).1).2 k⟩
 ·rintro ⟨h,k⟩;exact ⟨h,(fG (dC h).1).1 k⟩
theorem pY (x:Ex) (h1:(ah x).length<=1000000) (hz: ∀z,z∈ah x->z.kids.length<=1000000∧z.label.size<=1000000000000000):ar Tryz.prog 100 [.agg (aN x)] (.v (.bool (dk x))):=by
 have T:=(FY x [] (by simp) h1 hz).le (args':=[.agg (aN x), .v (.slice none 0 0)]) (by simp only [go_sem,dA,WA]) (.cons (.refl _) (.cons (.nil 1) .nil));rw [yZ] at T;simp only [aD] at T ⊢;refine gE Tryz.func100 Tryz.ntmps100 Tryz.results100 ?_
 (refine bq ?_;intro K hK K hK)
 refine ab.one T ?_
 (revert K;revert K;exact vn)
theorem IA (x:Ex) (hr:ay x=true):ar Tryz.prog 101 [.agg (aN x)] (.v (.int .i64 (aB x).length)):=by
 induction x using Ex.ind with
 | h k s l ih=>
  by_cases h1:k=1
  ·subst h1;rw [aB,if_pos rfl];simp only [aD,Ex.kind,Ex.label,Ex.kids];refine gE Tryz.func101 Tryz.ntmps101 Tryz.results101 ?_;refine aw ?_
   rfl
  ·have f1:(k==1)=false:=beq_false_of_ne h1;have hx:=qg hr;have hk:=ln hr
   have hl:l.length<=24:=by
    simp only [ay,Bool.and_eq_true,decide_eq_true_eq] at hr
    have:=jP (.mk k s l);simp only [Ex.kids] at this;omega
   rw [cO h1] at hx ⊢;simp only [aD,Ex.kind,Ex.label,Ex.kids];refine gE Tryz.func101 Tryz.ntmps101 Tryz.results101 ?_
   (refine aM f1 ?_;intro K hK)
   refine cq (ι:=Nat) (fun i=>[(1, .ptr 0 0 3 0 0),(3, .v (.int .i64 (aJ (l.take i)).length)),(4, .v (.int .i64 i))]) (fun i=>[some ⟨25,3,false,[[.v (.int .i64 k), .v (.string s), .aC 3 (l.map aN) l.length]]⟩]) (fun i=>l.length - i) (fun i=>i<=l.length) 0 (by omega) ?_ ?_
   ·refine bo ?_ aj;exact ⟨rfl,rfl⟩
   ·intro i hi K hK;simp only [gq,List.foldl_cons,List.foldl_nil,List.replicate_succ,List.replicate_zero,go_sem]
    (revert K;revert K;refine aw ?_;intro K hK K hK K hK)
    refine bH.part (fun h=> ?_) (fun h=> ?_)
    ·have hlt:i<l.length:=by replace h:=bI h;omega
     have eW:=ak (k:=i) (by omega);have eG:=getD_map aN l i [] hlt;have HX:=ih l[i] (List.getElem_mem hlt) (hk _ (List.getElem_mem hlt))
     have hS:(aJ (l.take (i+1))).length=(aJ (l.take i)).length+(aB l[i]).length:=by
      rw [List.take_succ_eq_append_getElem hlt,gJ,List.length_append];simp [aJ]
     have hB:(aJ l).length=(aJ (l.take (i+1))).length+(aJ (l.drop (i+1))).length:=by rw [<-List.length_append, <- gJ,List.take_append_drop]
     have eS:IntKind.i64.wrap (((aJ (l.take i)).length:Int)+((aB l[i]).length:Int))=((aJ (l.take (i+1))).length:Int):=by rw [cF (by omega) (by omega),hS];omega
     simp only [aD] at HX eG
     repeat (first|(with_reducible first|refine aA.up ?_|refine fun (K:AK) hK=> ?_|(refine hK _ ?_;clear hK K))|simp only [go_sem,eG]|with_reducible refine wA ?_|clear hK K)
     refine ab.one HX ?_
     ((iterate 4 revert K);refine aM eS ?_)
     exact az.mk (i+1) (by omega) (by omega) (by refine bo ?_ aj;exact eW)
    ·have e1:l.take i=l:=List.take_of_length_le (by replace h:=bI h;omega);simp only [e1]
     ((iterate 3 revert K);exact vj)
def lL (a b:Nat->Bool) (i q:Nat):Bool:=decide (q<i)&&(a q||b q)
theorem u6 (a b:Nat->Bool) (i:Nat):(fun q=>if q=i then (a i||b i) else lL a b i q)=lL a b (i+1):=by
 funext q
 rw [lL,lL]
 split
 ·rename_i h;subst h;simp
 ·rename_i h
  congr 1;rw [decide_eq_decide];omega
theorem si (N:Nat) (a b:Nat->Bool) (hn:N<=1000):ar Tryz.prog 103 [.aC 1 (cM N a) N, .aC 1 (cM N b) N] (.aC 1 (cM N (fun q=>a q||b q)) N):=by
 refine gE Tryz.func103 Tryz.ntmps103 Tryz.results103 ?_
 have e0:List.replicate N [AV.v (.bool false)]=cM N (lL a b 0):=by rw [jj];exact lq fun q _=>by simp [lL]
 repeat (first|(with_reducible first|refine aA.up ?_|refine fun (K:AK) hK=> ?_|(refine hK _ ?_;clear hK K))|simp only [go_sem,e0]|with_reducible refine wA ?_|clear hK K)
 refine aQ (ι:=Nat) 10 (fun i=>[(6, .v (.int .i64 i))]) (fun i=>[some ⟨4,1,true,cM N (lL a b i)⟩]) (fun i=>N - i) (fun i=>i<=N) 0 (by omega) ?_ ?_
 ·refine bo ?_ aj
  rfl
 ·intro i hi K hK
  (revert K;revert K;refine aw ?_;intro K hK K hK K hK)
  refine bH.part (fun h=> ?_) (fun h=> ?_)
  ·have hlt:i<N:=by replace h:=oE h;omega
   have eW:=ak (k:=i) (by omega);have eA:=cR (g:=a) hlt;have eB:=cR (g:=b) hlt;have eR:=cR (g:=lL a b i) hlt;have eS:=fun v=>py (N:=N) (j:=i) (g:=lL a b i) (v:=v);have eU:=u6 a b i;cases ha:a i
   all_goals
    simp only [ha,Bool.false_or,Bool.true_or] at eU
    repeat (first|(with_reducible first|refine aA.up ?_|refine fun (K:AK) hK=> ?_|(refine hK _ ?_;clear hK K))|simp only [go_sem,eW,eA,eB,ha,eR,eS,eU,Go.undef]|with_reducible refine wA ?_|clear hK K)
    exact az.mk (i+1) (by omega) (by omega) (by exact aR aj)
  ·have e1:i=N:=by replace h:=oE h;omega
   have eE:cM N (lL a b N)=cM N (fun q=>a q||b q):=lq fun q hq=>by simp [lL,hq]
   simp only [e1]
   ((iterate 3 revert K);refine aw ?_)
   rw [eE]
   (refine jm.of 40 rfl ?_;simp only [go_sem])
def ja (N:Nat) (g:Nat->Bool):List Nat:=((List.range N).filter g).map (· + 1)
theorem FU (N:Nat) (g:Nat->Bool):ja (N+1) g=ja N g++(if g N then [N+1] else []):=by
 rw [ja,List.range_succ,List.filter_append,List.map_append, <- ja]
 congr 1
 cases h:g N<;>simp [h]
theorem Jr (N:Nat) (g:Nat->Bool):(ja N g).length<=N:=by
 rw [ja,List.length_map];exact Nat.le_trans (List.length_filter_le _ _) (by simp)
theorem tU {N:Nat} {g:Nat->Bool} {p:Nat}:p∈ja N g↔1<=p∧p<=N∧g (p - 1)=true:=by
 rw [ja,List.mem_map]
 constructor
 ·rintro ⟨q,hq,rfl⟩;rw [List.mem_filter,List.mem_range] at hq;exact ⟨by omega,by omega,by simpa using hq.2⟩
 ·rintro ⟨h1,h2,h3⟩;exact ⟨p - 1,List.mem_filter.2 ⟨List.mem_range.2 (by omega),h3⟩,by omega⟩
theorem vX (N:Nat) (g:Nat->Bool):(ja N g).Pairwise (· < ·):=by
 rw [ja,List.pairwise_map];exact (List.pairwise_lt_range.filter _).imp (fun h=>by omega)
theorem L5 (N:Nat) (g:Nat->Bool) (hn:N<=1000):ar Tryz.prog 104 [.aC 1 (cM N g) N] (.aC 1 (aI (ja N g)) (ja N g).length):=by
 refine gE Tryz.func104 Tryz.ntmps104 Tryz.results104 ?_
 (refine aw ?_;intro K hK)
 refine mL (ι:=Nat) 3 3 1 rfl (by omega) 5 (fun i=>[(3, .vec 0 (ja i g).length),(4, .v (.int .i64 i))]) (fun i=>[some ⟨3,1,true,aI (ja i g)⟩]) (fun i=>N - i) (fun i=>i<=N) 0 (by omega) ?_ ?_
 ·refine iI ?_ ?_ aj
  ·exact ⟨rfl,rfl⟩
  ·rfl
 ·intro i hi K hK
  have eLn:(aI (ja i g)).length=(ja i g).length:=by simp [aI]
  have hsl:=Jr i g
  (revert K;revert K;refine aw ?_;intro K hK K hK K hK)
  refine bH.part (fun h=> ?_) (fun h=> ?_)
  ·have hlt:i<N:=by replace h:=oE h;omega
   have eW:=ak (k:=i) (by omega);have eA:=cR (g:=g) hlt;have eS:=FU i g
   cases hg:g i
   ·simp only [hg,Bool.false_eq_true,if_false,List.append_nil] at eS
    repeat (first|(with_reducible first|refine aA.up ?_|refine fun (K:AK) hK=> ?_|(refine hK _ ?_;clear hK K))|simp only [go_sem,eW,eA,hg]|with_reducible refine wA ?_|clear hK K)
    refine az.mk (i+1) (by omega) (by omega) ?_;rw [eS];exact aR aj
   ·simp only [hg,if_true] at eS
    repeat (first|(with_reducible first|refine aA.up ?_|refine fun (K:AK) hK=> ?_|(refine hK _ ?_;clear hK K))|simp only [go_sem,eW,eA,hg,eLn]|with_reducible refine wA ?_|clear hK K)
    refine az.mk (i+1) (by omega) (by omega) ?_;rw [eS];refine o5 ?_ aj;simp [aI]
  ·have e1:i=N:=by replace h:=oE h;omega
   simp only [e1]
   ((iterate 3 revert K);refine aw ?_)
   exact jm.vec (ob:=⟨3,1,true,aI (ja N g)⟩) rfl rfl (by simp [aI]) (bB _ (fun _=>rfl) _)
def lU (k:Nat) (x:Ex) (nl n:Nat):List AV:=[.vec (k+1) nl, .v (.slice none 0 0), .v (.slice none 0 0), .vec (k+2) n, .v (.bool (dk x)), .v (.int .i64 x.kind), .v (.string x.label), .aC 3 (x.kids.map aN) x.kids.length]
def cu (k:Nat) (x:Ex) (labs:List ByteArray) (n:Nat) (f:Nat->Nat->Bool):List (Option aa):=
 some ⟨120,8,false,[lU k x labs.length n]⟩ :: some ⟨9,1,true,labs.map encS⟩ :: bN (k+2) n n f
theorem Fp {N m i:Nat} {f:Nat->Nat->Bool} {b c x:Option aa} (h:i<m):(b :: c :: x :: aT N f m)[j5 2 i]? = some (jA N (f i)):=by
 rw [show j5 2 i=j5 0 i+1+1 by unfold j5;omega,VY,VY];exact kD (k:=0) h
theorem Fs {N m i j:Nat} {f:Nat->Nat->Bool} {v:Bool} {b c x:Option aa} (h:i<m):(b :: c :: x :: aT N f m).set (j5 2 i) (some ⟨4,1,true,(cM N (f i)).set j [.v (.bool v)]⟩)=b :: c :: x :: aT N (lv f i j v) m:=by
 rw [show j5 2 i=j5 0 i+1+1 by unfold j5;omega,List.set_cons_succ,List.set_cons_succ,ml h]
theorem bO (k:Nat) (x:Ex) (labs:List ByteArray) (n:Nat) (f:Nat->Nat->Bool):(cu k x labs n f).length=2 * n+3:=by
 rw [cu,List.length_cons,List.length_cons,gd]
theorem Mq {k n nl m:Nat} {x:Ex} (h:k+3<=m):aV m (lU k x nl n)=true:=by
 have h1:k+1<m:=by omega
 have h2:k+2<m:=by omega
 simp [lU,aV,AV.wf,bl,h1,h2]
theorem jd {m:Nat} {x:Ex} {labs:List ByteArray} {n:Nat} {f:Nat->Nat->Bool} (h:2 * n+3<=m): ∀ob,some ob∈cu 0 x labs n f->bw m ob.rows=true:=fun ob hb=>by
 rw [cu,VR,VR] at hb
 rcases hb with e|e|hb
 ·cases e;simp only [bw,Mq (show 0+3<=m by omega),Bool.and_self]
 ·cases e;exact a7 _ _
 ·rw [bN,VR] at hb
  rcases hb with e|hb
  ·cases e;exact jC (by omega)
  ·exact mF _ _ _ _ _ hb
theorem Q2 {m:Nat} {x:Ex} {labs:List ByteArray} {n:Nat} {f:Nat->Nat->Bool} (h:2 * n+3<=m):j7 m (cu 0 x labs n f) (cu 0 x labs n f):=by
 have:=lz (n:=m) (a:=[]) (b:=[]) (l:=cu 0 x labs n f) (jd h) trivial
 simpa using this
def iU (f:Nat->Nat->Bool) (la fi:Nat->Bool) (i j p q:Nat):Bool:=f p q||(decide (p<i∨(p=i∧q<j))&&(la p&&fi q))
theorem NV (f:Nat->Nat->Bool) (la fi:Nat->Bool):f=iU f la fi 0 0:=by funext p q;simp [iU]
theorem Fi {f:Nat->Nat->Bool} {la fi:Nat->Bool} {i j:Nat}:(if la i&&fi j then lv (iU f la fi i j) i j true else iU f la fi i j)=iU f la fi i (j+1):=by
 funext p q
 split
 ·rename_i h;rw [lv]
  split
  ·rename_i e;obtain ⟨rfl,rfl⟩:=e;simp [iU,h]
  ·rename_i e;rw [iU,iU];congr 2;rw [decide_eq_decide];omega
 ·rename_i h;rw [iU,iU]
  by_cases e:p=i∧q=j
  ·obtain ⟨rfl,rfl⟩:=e
   have h':(la p&&fi q)=false:=by simpa using h
   rw [h'];simp
  ·congr 2;rw [decide_eq_decide];omega
theorem Fh {f:Nat->Nat->Bool} {la fi:Nat->Bool} {N i:Nat}:aT N (iU f la fi i N) N=aT N (iU f la fi (i+1) 0) N:=e8 fun p q hp hq=>by
 rw [iU,iU];congr 2;rw [decide_eq_decide];omega
theorem wg {t t':List AV} {y:jo} {x:Ex} {labs:List ByteArray} {n:Nat} {f f0:Nat->Nat->Bool} (h:di (2 * n+3) t t'):Wk (cu 0 x labs n f0).length ⟨t,cu 0 x labs n f,y⟩ ⟨t',cu 0 x labs n f,y⟩:=
 aj (by rw [bO];exact h) (by rw [bO];exact Q2 (Ut _)) (by rw [bO,bO];exact Ut _)
theorem zy (x:Ex) (labs:List ByteArray) (n:Nat) (hn:n<=1000) (f:Nat->Nat->Bool) (la fi:Nat->Bool) :
  c7 Tryz.prog 134 [.ptr 0 0 8 0 0, .aC 1 (cM n la) n, .aC 1 (cM n fi) n] (cu 0 x labs n f) (.cI []) (cu 0 x labs n (fun p q=>f p q||(la p&&fi q))):=by
 have hd:decide (0<2 * n+3)=true:=decide_eq_true (by omega);refine gF Tryz.func134 Tryz.ntmps134 Tryz.results134 ?_;refine aw ?_
 refine aQ (ι:=Nat) 8 (fun i=>[(6, .v (.int .i64 i)),(7, .undef)]) (fun i=>cu 0 x labs n (iU f la fi i 0)) (fun i=>n - i) (fun i=>i<=n) 0 (by omega) ?_ ?_
 ·rw [<-NV];refine wg ?_;simp only [go_sem,di,true_or,or_true,true_and,and_true,hd];exact .inr rfl
 ·intro i hi K hK
  (revert K;refine aw ?_;intro K hK K hK)
  refine bH.part (fun h=> ?_) (fun h=> ?_)
  ·have hlt:i<n:=by replace h:=oE h;omega
   have eW:=ak (k:=i) (by omega);have eO:=jx (k:=2) (N:=n) hlt;have eA:=cR (g:=la) hlt
   (revert K;revert K;refine aw ?_;intro K hK K hK)
   refine aQ (ι:=Nat) 14 (fun j=>[(7, .v (.int .i64 j))]) (fun j=>cu 0 x labs n (iU f la fi i j)) (fun j=>n - j) (fun j=>j<=n) 0 (by omega) ?_ ?_
   ·refine wg ?_;simp only [go_sem,di,true_or,or_true,true_and,and_true,hd];exact .inr rfl
   ·intro j hj K hK
    ((iterate 3 revert K);refine aw ?_;iterate 4 intro K hK)
    refine bH.part (fun h=> ?_) (fun h=> ?_)
    ·have hjt:j<n:=by replace h:=oE h;omega
     have eV:=ak (k:=j) (by omega);have eB:=cR (g:=fi) hjt;have eU:=Fi (f:=f) (la:=la) (fi:=fi) (i:=i) (j:=j)
     rcases Bool.eq_false_or_eq_true (la i&&fi j) with hq|hq
     ·rw [hq] at eU;simp only [if_true] at eU;obtain ⟨h1,h2⟩:=Bool.and_eq_true_iff.1 hq;have hO: ∀b c y,(b :: c :: y :: aT n (iU f la fi i j) n)[j5 2 i]? = _:=fun b c y=>Fp (b:=b) (c:=c) (x:=y) hlt;have eR:=cR (g:=iU f la fi i j i) hjt;have eS:=fun b c y v=>Fs (N:=n) (j:=j) (f:=iU f la fi i j) (v:=v) (b:=b) (c:=c) (x:=y) hlt;simp only [cu,bN,lU,Nat.zero_add]
      repeat (first|(with_reducible first|refine aA.up ?_|refine fun (K:AK) hK=> ?_|(refine hK _ ?_;clear hK K))|simp only [go_sem,eV,eA,eB,h1,h2,eO,hO,jA,eR,eS,eU,Go.undef]|with_reducible refine wA ?_|clear hK K)
      refine az.mk (j+1) (by omega) (by omega) (wg ?_);simp only [go_sem,di,true_or,or_true,true_and,and_true,hd,aS,AV.wf]
     ·rw [hq] at eU;simp only [Bool.false_eq_true,if_false] at eU
      cases h1:la i
      ·repeat (first|(with_reducible first|refine aA.up ?_|refine fun (K:AK) hK=> ?_|(refine hK _ ?_;clear hK K))|simp only [go_sem,eV,eA,eB,h1,Go.undef]|with_reducible refine wA ?_|clear hK K)
       rw [eU];refine az.mk (j+1) (by omega) (by omega) (wg ?_);simp only [go_sem,di,true_or,or_true,true_and,and_true,hd,aS,AV.wf]
      ·rw [h1,Bool.true_and] at hq
       repeat (first|(with_reducible first|refine aA.up ?_|refine fun (K:AK) hK=> ?_|(refine hK _ ?_;clear hK K))|simp only [go_sem,eV,eA,eB,h1,hq,Go.undef]|with_reducible refine wA ?_|clear hK K)
       rw [eU];refine az.mk (j+1) (by omega) (by omega) (wg ?_);simp only [go_sem,di,true_or,or_true,true_and,and_true,hd,aS,AV.wf]
    ·have e1:j=n:=by replace h:=oE h;omega
     have eN:cu 0 x labs n (iU f la fi i n)=cu 0 x labs n (iU f la fi (i+1) 0):=by rw [cu,cu,bN,bN,Fh]
     simp only [e1];rw [eN]
     ((iterate 4 revert K);refine aM eW ?_)
     refine az.mk (i+1) (by omega) (by omega) (wg ?_);simp only [go_sem,di,true_or,or_true,true_and,and_true,hd,aS,AV.wf]
  ·have e1:i=n:=by replace h:=oE h;omega
   have eN:cu 0 x labs n (iU f la fi n 0)=cu 0 x labs n (fun p q=>f p q||(la p&&fi q)):=by
    rw [cu,cu,bN,bN,e8 (g:=iU f la fi n 0) (h:=fun p q=>f p q||(la p&&fi q)) (fun p q hp _=>by simp [iU,hp])]
   simp only [e1];rw [eN]
   (revert K;revert K;refine aw ?_)
   refine ⟨⟨.inr ⟨rfl,rfl⟩,trivial⟩,Q2 (by rw [bO];exact Ut _),by rw [bO,bO];exact Ut _⟩
section
def kX (l:List Ex) (i:Nat):Ex:=l.getD i (.mk 0 ⟨#[]⟩ [])
theorem Ih {l:List Ex} {i:Nat} (h:i<l.length):kX l i=l[i]:=by rw [kX,Vq,UM h];rfl
theorem cY (x:Ex) (l:List Ex):kX (x :: l) 0=x:=rfl
theorem cn (x:Ex) (l:List Ex) (i:Nat):kX (x :: l) (i+1)=kX l i:=rfl
def oD (b:Nat) (l:List Ex) (i:Nat):Nat:=b+(aJ (l.take i)).length
theorem cX (b:Nat) (l:List Ex):oD b l 0=b:=by simp [oD,aJ]
theorem cm (b:Nat) (x:Ex) (l:List Ex) (i:Nat):oD b (x :: l) (i+1)=oD (b+(aB x).length) l i:=by
 simp only [oD,List.take_succ_cons,aJ,List.length_append];omega
theorem Cu: ∀ {l:List Ex} {b p:Nat},fN l b p ↔ ∃i,i<l.length∧jX (kX l i) (oD b l i) p
 | [],b,p=>by simp [fN]
 | x :: l,b,p=>by
  rw [fN,Cu (l:=l)]
  constructor
  ·rintro (h|⟨i,h1,h2⟩)
   ·exact ⟨0,by simp,by rw [cY,cX];exact h⟩
   ·exact ⟨i+1,by simp;omega,by rw [cn,cm];exact h2⟩
  ·rintro ⟨i,h1,h2⟩
   cases i with
   | zero=>left;rw [cY,cX] at h2;exact h2
   | succ i=>right;rw [cn,cm] at h2;exact ⟨i,by simpa using h1,h2⟩
theorem Cw: ∀ {l:List Ex} {b p:Nat},fO l b p ↔ ∃i,i<l.length∧jg (kX l i) (oD b l i) p
 | [],b,p=>by simp [fO]
 | x :: l,b,p=>by
  rw [fO,Cw (l:=l)]
  constructor
  ·rintro (h|⟨i,h1,h2⟩)
   ·exact ⟨0,by simp,by rw [cY,cX];exact h⟩
   ·exact ⟨i+1,by simp;omega,by rw [cn,cm];exact h2⟩
  ·rintro ⟨i,h1,h2⟩
   cases i with
   | zero=>left;rw [cY,cX] at h2;exact h2
   | succ i=>right;rw [cn,cm] at h2;exact ⟨i,by simpa using h1,h2⟩
theorem wm: ∀ {l:List Ex} {b p q:Nat},gW l b p q ↔ ∃i,i<l.length∧iL (kX l i) (oD b l i) p q
 | [],b,p,q=>by simp [gW]
 | x :: l,b,p,q=>by
  rw [gW,wm (l:=l)]
  constructor
  ·rintro (h|⟨i,h1,h2⟩)
   ·exact ⟨0,by simp,by rw [cY,cX];exact h⟩
   ·exact ⟨i+1,by simp;omega,by rw [cn,cm];exact h2⟩
  ·rintro ⟨i,h1,h2⟩
   cases i with
   | zero=>left;rw [cY,cX] at h2;exact h2
   | succ i=>right;rw [cn,cm] at h2;exact ⟨i,by simpa using h1,h2⟩
theorem wo: ∀ {l:List Ex} {b p:Nat},gv l b p ↔ ∃i,i<l.length∧(∀k,k<i->aG (kX l k)=true)∧jX (kX l i) (oD b l i) p
 | [],b,p=>by simp [gv]
 | x :: l,b,p=>by
  rw [gv,wo (l:=l)]
  constructor
  ·rintro (h|⟨he,i,h1,h2,h3⟩)
   ·exact ⟨0,by simp,fun k hk=>by omega,by rw [cY,cX];exact h⟩
   ·refine ⟨i+1,by simp;omega,fun k hk=> ?_,by rw [cn,cm];exact h3⟩
    cases k with
    | zero=>exact he
    | succ k=>exact h2 k (by omega)
  ·rintro ⟨i,h1,h2,h3⟩
   cases i with
   | zero=>left;rw [cY,cX] at h3;exact h3
   | succ i=>
    right;rw [cn,cm] at h3;exact ⟨h2 0 (by omega),i,by simpa using h1,fun k hk=>h2 (k+1) (by omega),h3⟩
theorem yS: ∀ {l:List Ex},cB l=true ↔ ∀k,k<l.length->aG (kX l k)=true
 | []=>by simp [cB]
 | x :: l=>by
  rw [cB,Vj,yS (l:=l)]
  constructor
  ·rintro ⟨h,k⟩ j hj
   cases j with
   | zero=>exact h
   | succ j=>exact k j (by simpa using hj)
  ·intro h;exact ⟨h 0 (by simp),fun k hk=>h (k+1) (by simp;omega)⟩
theorem Cx: ∀ {l:List Ex} {b p:Nat},jn l b p ↔ ∃i,i<l.length∧(∀k,i<k->k<l.length->aG (kX l k)=true)∧jg (kX l i) (oD b l i) p
 | [],b,p=>by simp [jn]
 | x :: l,b,p=>by
  rw [jn,Cx (l:=l),yS]
  constructor
  ·rintro (⟨he,h⟩|⟨i,h1,h2,h3⟩)
   ·refine ⟨0,by simp,fun k hk hl=> ?_,by rw [cY,cX];exact h⟩
    cases k with
    | zero=>omega
    | succ k=>exact he k (by simpa using hl)
   ·refine ⟨i+1,by simp;omega,fun k hk hl=> ?_,by rw [cn,cm];exact h3⟩
    cases k with
    | zero=>omega
    | succ k=>exact h2 k (by omega) (by simpa using hl)
  ·rintro ⟨i,h1,h2,h3⟩
   cases i with
   | zero=>
    left;rw [cY,cX] at h3;exact ⟨fun k hk=>h2 (k+1) (by omega) (by simp;omega),h3⟩
   | succ i=>
    right;rw [cn,cm] at h3;exact ⟨i,by simpa using h1,fun k hk hl=>h2 (k+1) (by omega) (by simp;omega),h3⟩
theorem Ct: ∀ {l:List Ex} {b p q:Nat},gu l b p q↔(∃i,i<l.length∧iL (kX l i) (oD b l i) p q)∨ ∃i k,i<k∧k<l.length∧(∀j,i<j->j<k->aG (kX l j)=true)∧jg (kX l i) (oD b l i) p∧jX (kX l k) (oD b l k) q
 | [],b,p,q=>by simp [gu]
 | x :: l,b,p,q=>by
  rw [gu,Ct (l:=l),wo]
  constructor
  ·rintro (h|(⟨i,h1,h2⟩|⟨i,k,h1,h2,h3,h4,h5⟩)|⟨h,k,h1,h2,h3⟩)
   ·exact .inl ⟨0,by simp,by rw [cY,cX];exact h⟩
   ·exact .inl ⟨i+1,by simp;omega,by rw [cn,cm];exact h2⟩
   ·refine .inr ⟨i+1,k+1,by omega,by simp;omega,fun j j1 j2=> ?_,by rw [cn,cm];exact h4,by rw [cn,cm];exact h5⟩
    cases j with
    | zero=>omega
    | succ j=>exact h3 j (by omega) (by omega)
   ·refine .inr ⟨0,k+1,by omega,by simp;omega,fun j j1 j2=> ?_,by rw [cY,cX];exact h,by rw [cn,cm];exact h3⟩
    cases j with
    | zero=>omega
    | succ j=>exact h2 j (by omega)
  ·rintro (⟨i,h1,h2⟩|⟨i,k,h1,h2,h3,h4,h5⟩)
   ·cases i with
    | zero=>left;rw [cY,cX] at h2;exact h2
    | succ i=>right;left;left;rw [cn,cm] at h2;exact ⟨i,by simpa using h1,h2⟩
   ·cases k with
    | zero=>omega
    | succ k=>
     rw [cn,cm] at h5
     cases i with
     | zero=>
      right;right;rw [cY,cX] at h4;exact ⟨h4,k,by simpa using h2,fun j hj=>h3 (j+1) (by omega) (by omega),h5⟩
     | succ i=>
      right;left;right;rw [cn,cm] at h4;exact ⟨i,k,by omega,by simpa using h2,fun j j1 j2=>h3 (j+1) (by omega) (by omega),h4,h5⟩
section
variable (s:Bool) (m:Nat) (Em:Nat->Bool) (F L:Nat->Nat->Bool)
def pU (i k:Nat):Bool:=(List.range k).all fun j=> !s||Em j
def pW (i k:Nat):Bool:=(List.range k).all fun j=>decide (j<=i)||(!s||Em j)
def nU (i q:Nat):Bool:=(List.range i).any fun j=>pU s Em j j&&F j q
def nZ (i q:Nat):Bool:=(List.range i).any fun j=>pW s Em j m&&L j q
def ni (i k:Nat):Bool:=s&&(List.range k).all fun j=>decide (j<=i)||Em j
def lM (i k p q:Nat):Bool:=(List.range k).any fun j=>decide (i<j)&&ni s Em i j&&(L i p&&F j q)
def jG (i p q:Nat):Bool:=(List.range i).any fun j=>lM s Em F L j m p q
theorem Ee (i k:Nat):pU s Em i (k+1)=(pU s Em i k&&(!s||Em k)):=by rw [pU,WV,Xl];simp [pU]
theorem EA {i k:Nat} (h:i<k):pW s Em i (k+1)=(pW s Em i k&&(!s||Em k)):=by
 rw [pW,WV,Xl]
 have:decide (k<=i)=false:=decide_eq_false (by omega)
 simp [pW,this]
theorem GW (i:Nat):pW s Em i (i+1)=true:=by
 rw [pW,VH];intro x hx
 have:=VI.1 hx
 simp;omega
theorem EN (i q:Nat):nU s Em F (i+1) q=(nU s Em F i q||(pU s Em i i&&F i q)):=by rw [nU,WV,Xm];simp [nU]
theorem Fc (i q:Nat):nZ s m Em L (i+1) q=(nZ s m Em L i q||(pW s Em i m&&L i q)):=by rw [nZ,WV,Xm];simp [nZ]
theorem u4 {i k:Nat} (h:i<k):ni s Em i (k+1)=(ni s Em i k&&Em k):=by
 rw [ni,WV,Xl]
 have:decide (k<=i)=false:=decide_eq_false (by omega)
 simp [ni,this,Bool.and_assoc]
theorem GZ (i:Nat):ni s Em i (i+1)=s:=by
 have:((List.range (i+1)).all fun j=>decide (j<=i)||Em j)=true:=by
  rw [VH];intro x hx;have:=VI.1 hx;simp;omega
 rw [ni,this,Bool.and_true]
theorem vE {i k p q:Nat} (h:i<k):lM s Em F L i (k+1) p q=(lM s Em F L i k p q||(ni s Em i k&&(L i p&&F k q))):=by
 rw [lM,WV,Xm];simp [lM,h]
theorem Iv (i p q:Nat):lM s Em F L i (i+1) p q=false:=by
 rw [lM,List.any_eq_false];intro x hx
 have:=VI.1 hx
 have:decide (i<x)=false:=decide_eq_false (by omega)
 simp [this]
theorem KM {i k j:Nat} (hk:i<k) (h:ni s Em i k=false) (hj:k<=j):ni s Em i j=false:=by
 induction j with
 | zero=>omega
 | succ j ih=>
  rcases UA j k with h1|h1
  ·obtain rfl:j+1=k:=by omega
   exact h
  ·rw [u4 s Em (by omega),ih h1,Bool.false_and]
theorem Lo {i k j p q:Nat} (hk:i<k) (h:ni s Em i k=false) (hj:k<=j):lM s Em F L i j p q=lM s Em F L i k p q:=by
 induction j with
 | zero=>omega
 | succ j ih=>
  rcases UA j k with h1|h1
  ·obtain rfl:j+1=k:=by omega
   rfl
  ·rw [vE s Em F L (by omega),ih h1,KM s Em hk h h1,Bool.false_and,Bool.or_false]
theorem ES (i p q:Nat):jG s m Em F L (i+1) p q=(jG s m Em F L i p q||lM s Em F L i m p q):=by rw [jG,WV,Xm];simp [jG]
end
theorem Hi {s:Bool} {m:Nat} {Em:Nat->Bool} {F:Nat->Nat->Bool} {q:Nat}:nU s Em F m q=true ↔ ∃i,i<m∧(s=true-> ∀k,k<i->Em k=true)∧F i q=true:=by
 simp only [nU,Xo,VI,Vj,pU,VH,VJ,Bool.not_eq_true']
 constructor
 ·rintro ⟨i,h1,h2,h3⟩;exact ⟨i,h1,fun hs k hk=>(h2 k hk).elim (fun e=>by rw [hs] at e;cases e) id,h3⟩
 ·rintro ⟨i,h1,h2,h3⟩;refine ⟨i,h1,fun k hk=> ?_,h3⟩
  cases hs:s
  ·exact .inl rfl
  ·exact .inr (h2 hs k hk)
theorem Ik {s:Bool} {m:Nat} {Em:Nat->Bool} {L:Nat->Nat->Bool} {q:Nat}:nZ s m Em L m q=true ↔ ∃i,i<m∧(s=true-> ∀k,i<k->k<m->Em k=true)∧L i q=true:=by
 simp only [nZ,Xo,VI,Vj,pW,VH,VJ,Bool.not_eq_true',decide_eq_true_eq]
 constructor
 ·rintro ⟨i,h1,h2,h3⟩;exact ⟨i,h1,fun hs k hk hl=>(h2 k hl).elim (fun e=>by omega) (fun e=>e.elim (fun e=>by rw [hs] at e;cases e) id),h3⟩
 ·rintro ⟨i,h1,h2,h3⟩;refine ⟨i,h1,fun k hk=> ?_,h3⟩
  rcases UA i k with h|h
  ·right
   cases hs:s
   ·exact .inl rfl
   ·exact .inr (h2 hs k h hk)
  ·exact .inl h
theorem y8 {s:Bool} {m:Nat} {Em:Nat->Bool} {F L:Nat->Nat->Bool} {p q:Nat}:jG s m Em F L m p q=true↔s=true∧ ∃i k,i<k∧k<m∧(∀j,i<j->j<k->Em j=true)∧L i p=true∧F k q=true:=by
 simp only [jG,lM,ni,Xo,VI,Vj,VH,VJ,decide_eq_true_eq]
 constructor
 ·rintro ⟨i,h1,k,h2,⟨h3,h4,h5⟩,h6,h7⟩;exact ⟨h4,i,k,h3,h2,fun j j1 j2=>(h5 j j2).elim (fun e=>by omega) id,h6,h7⟩
 ·rintro ⟨h1,i,k,h2,h3,h4,h5,h6⟩;refine ⟨i,by omega,k,h3,⟨h2,h1,fun j hj=> ?_⟩,h5,h6⟩
  rcases UA i j with h|h
  ·exact .inr (h4 j h hj)
  ·exact .inl h
theorem sr {a:Act} {d:Nat} {v:Value} (h:d<a.tmps.size):(a.put (some d) v).eval (.tmp d)=v:=by
 simp [Act.put,Act.eval,Array.getD,h]
theorem zV (a:Act) (d:Option Tmp) (v:Value):(a.put d v).tmps.size=a.tmps.size:=by
 cases d<;>simp [Act.put]
theorem put_defers (a:Act) (d:Option Tmp) (v:Value):(a.put d v).defers=a.defers:=by
 cases d<;>rfl
section
variable {D:Nat->Prop} {nu:Nat->Nat->Value} {o:List (Option aa)} {w:World} {P:Program}
theorem fM.put {t:List AV} {tm:Array Value} (h:fM D nu o w t tm) {r:AV} {v:Value} (hr:RA D nu o w r v) (d:Nat):fM D nu o w (t.set d r) (tm.setIfInBounds d v):=by
 refine ⟨by simpa using h.len,fun i c x h1 h2=> ?_⟩
 by_cases hd:d=i
 ·subst hd;have hl:=(List.getElem?_eq_some_iff.1 h1).1;simp only [List.length_set] at hl;rw [List.getElem?_set_self hl] at h1;rw [Array.getElem?_setIfInBounds_self_of_lt (by rw [<-h.len];exact hl)] at h2;cases h1;cases h2;exact hr
 ·rw [UT hd] at h1;rw [Array.getElem?_setIfInBounds_ne hd] at h2;exact h.at' i c x h1 h2
theorem fM.iC {t:List AV} {a:Act} (h:fM D nu o w t a.tmps) {r:AV} {v:Value} (hr:RA D nu o w r v) (d:Nat):fM D nu o w (t.set d r) (a.put (some d) v).tmps:=h.put hr d
def np (T U V:TypeId) (oc:Op) (ty:Nat->TypeId) (po:Nat->String) (af:Nat->Array Edge) (last:Oper):List Oper:=
 [⟨some 22, .move (.tmp 5),ty 0,po 0,af 0,none⟩,⟨some 23, .makeSlice T (.tmp 22) (.tmp 22),ty 1,po 1,af 1,none⟩,⟨some 24, .move (.tmp 5),ty 2,po 2,af 2,none⟩,⟨some 25, .makeSlice T (.tmp 24) (.tmp 24),ty 3,po 3,af 3,none⟩,
  ⟨some 26, .load U (.tmp 3),ty 4,po 4,af 4,none⟩,⟨some 27,oc,ty 5,po 5,af 5,none⟩,⟨some 28, .build V #[(0, .tmp 23),(1, .tmp 25),(2, .tmp 27)],ty 6,po 6,af 6,none⟩,⟨some 6, .alloc V,ty 7,po 7,af 7,none⟩,last]
def ox (t:List AV) (ax:AV):List AV:=((((t.set 22 .undef).set 23 .undef).set 24 .undef).set 25 .undef).set 26 ax
def qA (t:List AV) (N n:Nat) (em:Bool):List AV:=
 ((((ox t .undef).set 27 .undef).set 28 (.agg [.vec N n, .vec (N+1) n, .v (.bool em)])).set 6 (.ptr (N+2) 0 3 0 0))
def Sk (n0:Nat) (m:gY):Spec:=⟨fun v w=>yf n0 m v w,fun _ _ _ hb h=>h.below hb⟩
def Rl (D:Nat->Prop) (nu:Nat->Nat->Value) (o:List (Option aa)) (r:AV):Spec:=⟨fun v w=>RA D nu o w r v,fun _ _ _ hb h=>h.mono (au hb) (fun _ _ h=>h)⟩
def Tj (n0:Nat) (m1 m3:gY) (em:Bool):Spec:=⟨fun v w=> ∃v1 v3,v = .agg #[v1,v3, .bool em]∧yf n0 m1 v1 w∧yf n0 m3 v3 w∧ ∀b,cd v1=some b->cd v3≠some b,fun _ _ _ hb ⟨v1,v3,h1,h2,h3,h4⟩=>⟨v1,v3,h1,h2.below hb,h3.below hb,h4⟩⟩
theorem yf.lt {n0:Nat} {m:gY} {v:Value} (h:yf n0 m v w): ∀b,cd v=some b->n0<=b∧ ∃cur,w.heap[b]? = some (.cells cur m.e (0,0)):=fun b hb=>by
 obtain ⟨b',cap,cur,h1,h2,h3,_⟩:=h;rw [h1,gY.qC] at hb;cases hb;exact ⟨h2,cur,h3⟩
theorem pf {S S':Spec} {r:Result Next} (h:uw P S w r) (hi: ∀v w',S.p v w'->S'.p v w'):uw P S' w r:=by
 revert h
 cases r with
 | halt _ _=>exact fun h=>h
 | ok n w'=>
  cases n<;>first|exact fun h=>h|skip
  case value u=>exact fun h=>⟨hi _ _ h.1,h.2⟩
  case skip=>exact fun h=>⟨hi _ _ h.1,h.2⟩
  case enter f args=>
   exact fun h=>Calls.mono h fun e w'' he=>by
    obtain ⟨v,rfl,hv,hb⟩:=he;exact ⟨v,rfl,hi _ _ hv,hb⟩
theorem IN {S:Spec} {r:Sem Next} {v:Value} {w':World} (h:r.run P w = .ok (.value v) w') (hs:S.p v w') (hb:Below w.heap.size w w'):uw P S w (r.run P w):=by
 rw [h];exact ⟨hs,hb⟩
theorem PW {a:Act} {t:List AV} {o:List (Option aa)} {y:jo} (hro:RO D nu o w) (h:fM D nu o w t a.tmps) (y':Operand):RA D nu o w (AS.ev ⟨t,o,y⟩ y') (a.eval y'):=by
 cases y' with
 | tmp t'=>
  simp only [AS.ev,Act.eval]
  rcases UA t' t.length with hlt|hge
  ·have e1:t[t']? = some t[t']:=UM hlt
   have hlt':t'<a.tmps.size:=by rw [<-h.len];exact hlt
   rw [getD_some e1]
   have e2:a.tmps.getD t' Go.undef=a.tmps[t']:=by simp [Array.getD,hlt']
   rw [e2];exact h.at' t' _ _ e1 (Array.getElem?_eq_getElem hlt')
  ·rw [Vq,List.getElem?_eq_none hge];exact .undef _
 | const v=>exact .v v
 | global gi=>exact mO hro ⟨t,o,y⟩ gi
 | func f=>exact .fn f [] [] #[] #[] rfl rfl (fun i c x h=>by simp at h) (fun i c x h=>by simp at h)
theorem iz {t:List AV} {o:List (Option aa)} {y:jo} {d i:Nat} {v:AV} (h:d≠i):AS.ev ⟨t.set d v,o,y⟩ (.tmp i)=AS.ev ⟨t,o,y⟩ (.tmp i):=by
 simp [AS.ev,Vq,UT h]
theorem rj {t:List AV} {o:List (Option aa)} {y:jo} {d:Nat} {v:AV} (h:d<t.length):AS.ev ⟨t.set d v,o,y⟩ (.tmp d)=v:=by
 simp [AS.ev,Vq,h]
theorem yf.one {n0:Nat} {m:gY} {v:Value} (h:yf n0 m v w):v.oneCell'=true:=by
 obtain ⟨b',cap,cur,h1,_⟩:=h;rw [h1,gY.val];split<;>rfl
theorem Ew {n0 id n z:Nat} {s:AS} {Q:aY->AS->Prop} {T U V:TypeId} {oc:Op} {ty:Nat->TypeId} {po:Nat->String} {af:Nat->Array Edge} {last:Oper} {ax:AV} {em:Bool} {p1 p7:Prop} {e:TypeId} {zc zr:List AV}
  (hB:gk (np T U V oc ty po af last).toArray 8=true) (hC:dw (np T U V oc ty po af last).toArray=true)
  (hdp:aE (np T U V oc ty po af last).toArray 1 0=true∧aE (np T U V oc ty po af last).toArray 3 2=true∧aE (np T U V oc ty po af last).toArray 5 4=true∧aE (np T U V oc ty po af last).toArray 6 1=true∧aE (np T U V oc ty po af last).toArray 6 3=true∧aE (np T U V oc ty po af last).toArray 6 5=true)
  (hlen:29<=s.t.length) (hmv:s.ev (.tmp 5) = .v (.int .i64 n)) (hm1:wN P T (.v (.int .i64 n)) (.v (.int .i64 n))=some (p1,e,z,n,zc)) (hp1:p1) (hal:wC P V=some (p7,V,3,1,zr)) (heV:e≠V)
  (hld:bS P (.load U (.tmp 3)) s (fun r=>r=ax)) (hcl:bS P oc ⟨ox s.t ax,s.o,s.y⟩ (fun r=>r = .v (.bool em)))
  (hbd: ∀v1 v3:Value,v1.oneCell'=true->v3.oneCell'=true->nH P V [(0, .v v1),(1, .v v3),(2, .v (.bool em))]=some (.agg [.v v1, .v v3, .v (.bool em)]))
  (h:dM P (np T U V oc ty po af last) [last] ⟨qA s.t s.o.length n em,s.o++[some ⟨e,z,true,List.replicate n zc⟩,some ⟨e,z,true,List.replicate n zc⟩,some ⟨V,3,false,[zr]⟩],s.y⟩ (Q .normal)) :
  cj P n0 (.region id (np T U V oc ty po af last).toArray true) s Q:=by
 refine .inr (fun f m D nu a w hZr hn hm hs hmx R hO hR=> ?_);have hs0:=hs.drew;obtain ⟨d10,d32,d54,d61,d63,d65⟩:=hdp;have hsz:a.tmps.size=s.t.length:=hs.tm.len.symm
 have hwant: ∀(i:Nat) (oo:Oper) (a':Act),oo.guard=none->Region.wanted oo (yielded (np T U V oc ty po af last).toArray a'.tmps)=true:=fun i oo a' hg=>by simp [Region.wanted,hg]
 
 have base: ∀wr,Below w.drew.heap.size w.drew wr->RO D nu s.o wr∧fM D nu s.o wr s.t a.tmps:=fun wr hE=>⟨hs0.ro.below hE,hs0.tm.mono (au hE) (fun _ _ h=>h)⟩
 refine mG hmx hC hO (ki [Rl D nu s.o (.v (.int .i64 n)),Sk w.drew.heap.size ⟨23,1,e,z,n,zc,false⟩,Rl D nu s.o (.v (.int .i64 n)),Sk w.drew.heap.size ⟨25,3,e,z,n,zc,false⟩,Rl D nu s.o ax,Rl D nu s.o (.v (.bool em)),Tj w.drew.heap.size ⟨23,1,e,z,n,zc,false⟩ ⟨25,3,e,z,n,zc,false⟩ em,Sk w.drew.heap.size ⟨6,7,V,3,1,zr,true⟩]
  (fun i=>i==1||i==3||i==7) (fun i v w1 hf hp b hb=> ?_) 8 hB ⟨fun x wr hE hD hP=> ?_,fun x wr hE hD hP=> ?_,fun x wr hE hD hP=> ?_,fun x wr hE hD hP=> ?_,fun x wr hE hD hP=> ?_,fun x wr hE hD hP=> ?_,fun x wr hE hD hP=> ?_,fun x wr hE hD hP=> ?_,fun x wr hE hD hP=> ?_⟩)
 ·simp only [VJ,beq_iff_eq] at hf
  rcases hf with (rfl|rfl)|rfl<;>exact (Array.getElem?_eq_some_iff.1 ((yf.lt hp b hb).2.choose_spec)).1
 ·refine .inl ⟨hwant 0 _ _ rfl, ?_⟩;obtain ⟨hro,hra⟩:=base wr hE;obtain ⟨r,rfl,hout⟩:=fD (P:=P) (s:=s) (rho:=a.eval) (oo:=⟨some 22, .move (.tmp 5),ty 0,po 0,af 0,none⟩) (K:=fun r=>r = .v (.int .i64 n)) hro (fun y _=>PW hro hra y) ⟨trivial,hmv⟩;exact pf hout (fun v w' hv=>⟨hv.2,fun h=>absurd h (by decide)⟩)
 ·refine .inl ⟨hwant 1 _ _ rfl, ?_⟩;obtain ⟨hro,hra⟩:=base wr hE;have h0:RA D nu s.o wr (.v (.int .i64 n)) (x 0):=hD 0 d10;have e0:(a.put (some 22) (x 0)).eval (.tmp 22)=x 0:=sr (by omega);obtain ⟨v,w',h1,h2,h3⟩:=uS (P:=P) (w:=wr) h0 h0 hm1 hp1 23 1
  have hrun:(execOp (a.put (some 22) (x 0)).eval ⟨some 23, .makeSlice T (.tmp 22) (.tmp 22),ty 1,po 1,af 1,none⟩).run P wr = .ok (.value v) w':=by
   simp only [execOp,e0,Sem.run_bind,h1,Result.andThen_ok,Sem.run_pure]
  show uw P _ wr ((execOp (a.put (some 22) (x 0)).eval ⟨some 23, .makeSlice T (.tmp 22) (.tmp 22),ty 1,po 1,af 1,none⟩).run P wr);rw [hrun];obtain ⟨b,cap,cur,k1,k2,k3⟩:=h3;exact ⟨⟨⟨b,cap,cur,k1,Uu hE.size k2,k3⟩,fun _ b' hb=>by rw [k1,gY.qC] at hb;cases hb;exact k2⟩,h2⟩
 ·refine .inl ⟨hwant 2 _ _ rfl, ?_⟩;obtain ⟨hro,hra⟩:=base wr hE;have hr2:=(hra.iC (.undef (x 0)) 22).iC (.undef (x 1)) 23
  obtain ⟨r,rfl,hout⟩:=fD (P:=P) (s:=⟨(s.t.set 22 .undef).set 23 .undef,s.o,s.y⟩) (rho:=((a.put (some 22) (x 0)).put (some 23) (x 1)).eval) (oo:=⟨some 24, .move (.tmp 5),ty 2,po 2,af 2,none⟩) (K:=fun r=>r = .v (.int .i64 n)) hro (fun y _=>PW hro hr2 y)
   ⟨trivial,by rw [iz (by decide),iz (by decide)];exact hmv⟩
  exact pf hout (fun v w' hv=>⟨hv.2,fun h=>absurd h (by decide)⟩)
 ·refine .inl ⟨hwant 3 _ _ rfl, ?_⟩;have h0:RA D nu s.o wr (.v (.int .i64 n)) (x 2):=hD 2 d32;have e0:(((a.put (some 22) (x 0)).put (some 23) (x 1)).put (some 24) (x 2)).eval (.tmp 24)=x 2:=sr (by rw [zV,zV];omega);obtain ⟨v,w',h1,h2,h3⟩:=uS (P:=P) (w:=wr) h0 h0 hm1 hp1 25 3
  have hrun:(execOp (((a.put (some 22) (x 0)).put (some 23) (x 1)).put (some 24) (x 2)).eval ⟨some 25, .makeSlice T (.tmp 24) (.tmp 24),ty 3,po 3,af 3,none⟩).run P wr = .ok (.value v) w':=by
   simp only [execOp,e0,Sem.run_bind,h1,Result.andThen_ok,Sem.run_pure]
  show uw P _ wr ((execOp (((a.put (some 22) (x 0)).put (some 23) (x 1)).put (some 24) (x 2)).eval ⟨some 25, .makeSlice T (.tmp 24) (.tmp 24),ty 3,po 3,af 3,none⟩).run P wr);rw [hrun];obtain ⟨b,cap,cur,k1,k2,k3⟩:=h3;exact ⟨⟨⟨b,cap,cur,k1,Uu hE.size k2,k3⟩,fun _ b' hb=>by rw [k1,gY.qC] at hb;cases hb;exact k2⟩,h2⟩
 ·refine .inl ⟨hwant 4 _ _ rfl, ?_⟩;obtain ⟨hro,hra⟩:=base wr hE;have hr4:=(((hra.iC (.undef (x 0)) 22).iC (.undef (x 1)) 23).iC (.undef (x 2)) 24).iC (.undef (x 3)) 25
  obtain ⟨r,rfl,hout⟩:=fD (P:=P) (s:=⟨(((s.t.set 22 .undef).set 23 .undef).set 24 .undef).set 25 .undef,s.o,s.y⟩) (rho:=((((a.put (some 22) (x 0)).put (some 23) (x 1)).put (some 24) (x 2)).put (some 25) (x 3)).eval) (oo:=⟨some 26, .load U (.tmp 3),ty 4,po 4,af 4,none⟩) (K:=fun r=>r=ax) hro (fun y _=>PW hro hr4 y)
   (by simp only [bS,Be,wT,iz (show 22≠3 by decide),iz (show 23≠3 by decide),iz (show 24≠3 by decide),iz (show 25≠3 by decide)] at hld ⊢; exact hld)
  exact pf hout (fun v w' hv=>⟨hv.2,fun h=>absurd h (by decide)⟩)
 ·refine .inl ⟨hwant 5 _ _ rfl, ?_⟩;obtain ⟨hro,hra⟩:=base wr hE;have h4:RA D nu s.o wr ax (x 4):=hD 4 d54;have hr5:=((((hra.iC (.undef (x 0)) 22).iC (.undef (x 1)) 23).iC (.undef (x 2)) 24).iC (.undef (x 3)) 25).iC h4 26;obtain ⟨r,rfl,hout⟩:=fD (P:=P) (s:=⟨ox s.t ax,s.o,s.y⟩) (rho:=(((((a.put (some 22) (x 0)).put (some 23) (x 1)).put (some 24) (x 2)).put (some 25) (x 3)).put (some 26) (x 4)).eval) (oo:=⟨some 27,oc,ty 5,po 5,af 5,none⟩) (K:=fun r=>r = .v (.bool em)) hro (fun y _=>PW hro hr5 y) hcl;exact pf hout (fun v w' hv=>⟨hv.2,fun h=>absurd h (by decide)⟩)
 ·refine .inl ⟨hwant 6 _ _ rfl, ?_⟩;obtain ⟨hro,hra⟩:=base wr hE;have h1:yf w.drew.heap.size ⟨23,1,e,z,n,zc,false⟩ (x 1) wr:=hD 1 d61;have h3:yf w.drew.heap.size ⟨25,3,e,z,n,zc,false⟩ (x 3) wr:=hD 3 d63;have h5:RA D nu s.o wr (.v (.bool em)) (x 5):=hD 5 d65;have hne:=hP 1 3 d61 d63 (by decide) rfl rfl;have hr6:=(((((hra.iC (.undef (x 0)) 22).iC (.v (x 1)) 23).iC (.undef (x 2)) 24).iC (.v (x 3)) 25).iC (.undef (x 4)) 26).iC h5 27;have hb:=hbd (x 1) (x 3) h1.one h3.one
  obtain ⟨v,q1,q2⟩:=kj (P:=P) (ev:=AS.ev ⟨(((((s.t.set 22 .undef).set 23 (.v (x 1))).set 24 .undef).set 25 (.v (x 3))).set 26 .undef).set 27 (.v (.bool em)),s.o,s.y⟩) (rho:=((((((a.put (some 22) (x 0)).put (some 23) (x 1)).put (some 24) (x 2)).put (some 25) (x 3)).put (some 26) (x 4)).put (some 27) (x 5)).eval)
   (oo:=⟨some 28, .build V #[(0, .tmp 23),(1, .tmp 25),(2, .tmp 27)],ty 6,po 6,af 6,none⟩) hro (fun y _=>PW hro hr6 y) (p:=True) (r:= .agg [.v (x 1), .v (x 3), .v (.bool em)]) (by
    have e1:AS.ev ⟨(((((s.t.set 22 .undef).set 23 (.v (x 1))).set 24 .undef).set 25 (.v (x 3))).set 26 .undef).set 27 (.v (.bool em)),s.o,s.y⟩ (.tmp 23) = .v (x 1):=by
     rw [iz (by decide),iz (by decide),iz (by decide),iz (by decide)];exact rj (by simp;omega)
    have e3:AS.ev ⟨(((((s.t.set 22 .undef).set 23 (.v (x 1))).set 24 .undef).set 25 (.v (x 3))).set 26 .undef).set 27 (.v (.bool em)),s.o,s.y⟩ (.tmp 25) = .v (x 3):=by
     rw [iz (by decide),iz (by decide)];exact rj (by simp;omega)
    have e5:AS.ev ⟨(((((s.t.set 22 .undef).set 23 (.v (x 1))).set 24 .undef).set 25 (.v (x 3))).set 26 .undef).set 27 (.v (.bool em)),s.o,s.y⟩ (.tmp 27) = .v (.bool em):=rj (by simp;omega)
    simp only [wT,List.map_cons,List.map_nil,e1,e3,e5,hb]) trivial
  have q3:=rS (xs:=[x 1,x 3, .bool em]) q2;show uw P _ wr ((execOp ((((((a.put (some 22) (x 0)).put (some 23) (x 1)).put (some 24) (x 2)).put (some 25) (x 3)).put (some 26) (x 4)).put (some 27) (x 5)).eval ⟨some 28, .build V #[(0, .tmp 23),(1, .tmp 25),(2, .tmp 27)],ty 6,po 6,af 6,none⟩).run P wr);rw [q1];exact ⟨⟨⟨x 1,x 3,q3,h1,h3,hne⟩,fun h=>absurd h (by decide)⟩, .refl _ _⟩
 ·refine .inl ⟨hwant 7 _ _ rfl, ?_⟩;obtain ⟨v,w',h1,h2,h3⟩:=D9 (P:=P) (w:=wr) hal 6 7;refine IN (v:=v) (w':=w') (by simp only [execOp,Sem.run_bind,h1,Result.andThen_ok,Sem.run_pure]) ?_ h2;obtain ⟨b,cap,cur,k1,k2,k3⟩:=h3;exact ⟨⟨b,cap,cur,k1,Uu hE.size k2,k3⟩,fun _ b' hb=>by rw [k1,gY.qC] at hb;cases hb;exact k2⟩
 ·obtain ⟨hro,hra⟩:=base wr hE;obtain ⟨v1,v3,e6,m1,m3,hne⟩:(Tj w.drew.heap.size ⟨23,1,e,z,n,zc,false⟩ ⟨25,3,e,z,n,zc,false⟩ em).p (x 6) wr:=hD 6 (by decide);have m7:yf w.drew.heap.size ⟨6,7,V,3,1,zr,true⟩ (x 7) wr:=hD 7 (by decide)
  have hdiff: ∀v (mm:gY),mm.e=e->yf w.drew.heap.size mm v wr-> ∀b,cd v=some b->cd (x 7)≠some b:=fun v mm he hm b h1 h2=>by
   obtain ⟨c1,k1⟩:=(hm.lt b h1).2;obtain ⟨c2,k2⟩:=(m7.lt b h2).2;rw [k1] at k2;simp only [Option.some.injEq,Obj.cells.injEq,and_true] at k2;exact heV (he.symm.trans k2.2)
  obtain ⟨hmo,hro',hcl'⟩:=G6 hs0.ro hE [⟨23,1,e,z,n,zc,false⟩,⟨25,3,e,z,n,zc,false⟩,⟨6,7,V,3,1,zr,true⟩] (fun i=>if i=0 then v1 else if i=1 then v3 else x 7) (fun i mm hi=>by
   match i,hi with
   | 0,hi=>cases hi;exact m1
   | 1,hi=>cases hi;exact m3
   | 2,hi=>cases hi;exact m7
   | i+3,hi=>simp at hi) (fun i j hi hj hij b hb=>by
   simp only [List.length_cons,List.length_nil] at hi hj
   match i,j,hi,hj,hij,hb with
   | 0,0,_,_,h,_=>exact absurd rfl h
   | 0,1,_,_,_,hb=>exact hne b hb
   | 0,2,_,_,_,hb=>exact hdiff v1 _ rfl m1 b hb
   | 1,0,_,_,_,hb=>exact fun h=>hne b h hb
   | 1,1,_,_,h,_=>exact absurd rfl h
   | 1,2,_,_,_,hb=>exact hdiff v3 _ rfl m3 b hb
   | 2,0,_,_,_,hb=>exact fun h=>hdiff v1 _ rfl m1 b h hb
   | 2,1,_,_,_,hb=>exact fun h=>hdiff v3 _ rfl m3 b h hb
   | 2,2,_,_,h,_=>exact absurd rfl h
   | i+3,_,h,_,_,_=>omega
   | _,j+3,_,h,_,_=>omega)
  have c0:=hcl' 0 _ rfl;have c1:=hcl' 1 _ rfl;have c2:=hcl' 2 _ rfl;generalize Gb nu s.o.length (fun i=>if i=0 then v1 else if i=1 then v3 else x 7)=nu2 at *;have hra2:=hs0.tm.mono hmo (fun _ _ h=>h);simp only [gY.av,gY.ob,Bool.not_false,Bool.not_true,if_true,Bool.false_eq_true,if_false,Nat.add_zero,List.map_cons,List.map_nil,Nat.one_ne_zero,List.replicate_succ,List.replicate_zero] at c0 c1 c2 hmo hro' hra2;have c2:RA D nu2 _ wr (.ptr (s.o.length+2) 0 3 0 0) (x 7):=c2
  have hagg:RA D nu2 (s.o++[some ⟨e,z,true,List.replicate n zc⟩,some ⟨e,z,true,List.replicate n zc⟩,some ⟨V,3,false,[zr]⟩]) wr (.agg [.vec s.o.length n, .vec (s.o.length+1) n, .v (.bool em)]) (x 6):=by
   rw [e6]
   refine .agg _ _ rfl (fun i c y h1 h2=> ?_) (fun i y h2=> ?_)
   ·match i,h1,h2 with
    | 0,h1,h2=>cases h1;cases h2;exact c0
    | 1,h1,h2=>cases h1;cases h2;exact c1
    | 2,h1,h2=>cases h1;cases h2;exact .v _
    | i+3,h1,h2=>simp at h1
   ·match i,h2 with
    | 0,h2=>cases h2;exact m1.one
    | 1,h2=>cases h2;exact m3.one
    | 2,h2=>cases h2;rfl
    | i+3,h2=>simp at h2
  have hra8:fM D nu2 (s.o++[some ⟨e,z,true,List.replicate n zc⟩,some ⟨e,z,true,List.replicate n zc⟩,some ⟨V,3,false,[zr]⟩]) wr (qA s.t s.o.length n em) ((((((((a.put (some 22) (x 0)).put (some 23) (x 1)).put (some 24) (x 2)).put (some 25) (x 3)).put (some 26) (x 4)).put (some 27) (x 5)).put (some 28) (x 6)).put (some 6) (x 7)).tmps:=by
   refine fM.iC ?_ c2 6;refine fM.iC ?_ hagg 28;refine fM.iC ?_ (.undef (x 5)) 27;refine fM.iC ?_ (.undef (x 4)) 26;refine fM.iC ?_ (.undef (x 3)) 25;refine fM.iC ?_ (.undef (x 2)) 24;refine fM.iC ?_ (.undef (x 1)) 23;refine fM.iC ?_ (.undef (x 0)) 22;exact hra2
  generalize hA:((((((((a.put (some 22) (x 0)).put (some 23) (x 1)).put (some 24) (x 2)).put (some 25) (x 3)).put (some 26) (x 4)).put (some 27) (x 5)).put (some 28) (x 6)).put (some 6) (x 7))=a8 at hra8
  have hd8:a8.defers=a.defers:=by rw [<-hA];simp only [put_defers]
  show wpOps P (np T U V oc ty po af last).toArray R (List.range' 8 ((np T U V oc ty po af last).toArray.size - 8)) ((((((((a.put (some 22) (x 0)).put (some 23) (x 1)).put (some 24) (x 2)).put (some 25) (x 3)).put (some 26) (x 4)).put (some 27) (x 5)).put (some 28) (x 6)).put (some 6) (x 7)) wr;rw [hA]
  have hs8:RS f D nu2 ⟨qA s.t s.o.length n em,s.o++[some ⟨e,z,true,List.replicate n zc⟩,some ⟨e,z,true,List.replicate n zc⟩,some ⟨V,3,false,[zr]⟩],s.y⟩ a8 wr:=
   ⟨hro',hra8,by rw [hd8];exact hs0.js.mono hs0.ro (au hE)⟩
  exact kQ (P:=P) (f:=f) (l:=np T U V oc ty po af last) (R:=R) [last] 8 _ _ wr nu2 rfl (show 8<=9 by omega) hs8 h (fun s' a' w' nu' q1 q2 q3 q4=>hR .normal D f.Z s' a' w' nu' (by rw [q2];exact m.own hm hs.ro ((au (cr w)).trans (hmo.trans q1)) q3.ro) q3 q4)
theorem Bg {n0 id n z:Nat} {s:AS} {Q:aY->AS->Prop} {l:List Oper} (T U V:TypeId) (oc:Op) {ax:AV} {em:Bool} {p1 p7:Prop} {e:TypeId} {zc zr:List AV}
  (hl:l=np T U V oc (fun i=>(l.getD i default).type) (fun i=>(l.getD i default).pos) (fun i=>(l.getD i default).after) (l.getD 8 default))
  (hB:gk l.toArray 8=true) (hC:dw l.toArray=true)
  (hdp:aE l.toArray 1 0=true∧aE l.toArray 3 2=true∧aE l.toArray 5 4=true∧aE l.toArray 6 1=true∧aE l.toArray 6 3=true∧aE l.toArray 6 5=true)
  (hlen:29<=s.t.length) (hmv:s.ev (.tmp 5) = .v (.int .i64 n)) (hm1:wN P T (.v (.int .i64 n)) (.v (.int .i64 n))=some (p1,e,z,n,zc)) (hp1:p1) (hal:wC P V=some (p7,V,3,1,zr)) (heV:e≠V)
  (hld:bS P (.load U (.tmp 3)) s (fun r=>r=ax)) (hcl:bS P oc ⟨ox s.t ax,s.o,s.y⟩ (fun r=>r = .v (.bool em)))
  (hbd: ∀v1 v3:Value,v1.oneCell'=true->v3.oneCell'=true->nH P V [(0, .v v1),(1, .v v3),(2, .v (.bool em))]=some (.agg [.v v1, .v v3, .v (.bool em)]))
  (h:dM P l [l.getD 8 default] ⟨qA s.t s.o.length n em,s.o++[some ⟨e,z,true,List.replicate n zc⟩,some ⟨e,z,true,List.replicate n zc⟩,some ⟨V,3,false,[zr]⟩],s.y⟩ (Q .normal)) :
  cj P n0 (.region id l.toArray true) s Q:=by
 generalize (fun i=>(l.getD i default).type)=ty at hl;generalize (fun i=>(l.getD i default).pos)=po at hl;generalize (fun i=>(l.getD i default).after)=af at hl;generalize l.getD 8 default=last at hl h;subst hl;exact Ew hB hC hdp hlen hmv hm1 hp1 hal heV hld hcl hbd h
end
end
end Go.Proofs.YtfflpdekojlnmaaGreatDoor
