/- 'kinescopelaw18.PlanDoubles': for every input the call returns true and all read behind it as before. Three tables (two of math/bits, one of internal/strconv) are laid, and tied to the program's text. No condition beyond the row's own: the reading ends, and no text or slice that came in is longer than the form's reach. -/
import Derived.Test.YtjcobjgjjlahdaaGreatDoorWKept
import Derived.Test.YtjcobjgjjlahdaaGreatDoorWPlanD
import Derived.Test.YtjcobjgjjlahdaaGreatDoorWDfaC
import Derived.Test.YtjcobjgjjlahdaaGreatDoorRows
import Derived.Test.YtjcobjgjjlahdaaGreatDoorCards
import Derived.Test.YtjcobjgjjlahdaaGreatDoorTie
import Derived.Test.YtjcobjgjjlahdaaGreatDoorWOrdB
import Derived.WalkKit
import Derived.ProofKit
import Derived.OpenShut
import Derived.Stop.Joined
import Derived.SevenTiedAt
import Derived.Carry
set_option linter.unusedSimpArgs false
set_option linter.unusedVariables false
set_option maxRecDepth 100000
set_option maxHeartbeats 16000000
open Bool renaming and_self -> SE, and_true -> R0, true_and -> R3
open List renaming length_cons -> QI, length_append -> QH, mem_cons -> Sj, cons_append -> SB, nil_append -> SA, length_nil -> QC, replicate_succ -> SG, replicate_zero -> SH
open Option.some renaming inj -> Qx
namespace Go.Proofs.YtjcobjgjjlahdaaGreatDoor
open Go.RowKit
section
mutual
theorem wN: ∀(x:Ex) (b:Nat),pE x b<=b->(aA x).length<=pE x b
 | .mk k s l,b,h=>by
  rw [pE] at h ⊢;have h2:=wO l b 1 h;rw [aA,QI];omega
theorem wO: ∀(l:List Ex) (b n:Nat),pL l b n<=b->n+(bM l).length<=pL l b n
 | [],b,n,h=>by rw [pL,bM];simp
 | x :: xs,b,n,h=>by
  rw [pL] at h ⊢
  split at h
  ·rename_i hn;rw [if_pos hn];have r1:=qj x (b - n);have r2:=uj xs b (n+pE x (b - n)) (by omega);have h1:=wN x (b - n) (by omega);have h2:=wO xs b _ h;rw [bM,QH];omega
  ·omega
end
theorem E5: ∀(l:List bV) (n:Nat),pQ l n<=300-> ∀p∈l,pE p.expr 300<=300
 | [],_,_,p,hp=>by cases hp
 | a :: l,n,h,p,hp=>by
  rw [pQ] at h
  split at h
  ·have:=E4 l (n+pE a.expr 300)
   rcases Sj.1 hp with rfl|hp
   ·omega
   ·exact E5 l _ h p hp
  ·omega
theorem zX {z:Ex}: ∀ {l:List Ex},z∈l->(aA z).length<=(l.flatMap aA).length
 | [],h=>by cases h
 | a :: l,h=>by
  rw [List.flatMap_cons,QH]
  rcases Sj.1 h with rfl|h
  ·omega
  ·have:=zX h;omega
theorem y6 (x:Ex) (h:(aA x).length<=1000000):x.lens 1000000:=by
 induction x using Ex.ind with
 | h k s l ih=>
  intro y hy;rw [aA,bZ] at hy h
  rcases Sj.1 hy with rfl|hy
  ·show l.length<=_
   have:l.length<=(l.flatMap aA).length:=by
    clear ih hy h
    induction l with
    | nil=>simp
    | cons a l ih2=>
     rw [List.flatMap_cons,QH,QI]
     have:1<=(aA a).length:=by obtain ⟨k,s,l⟩:=a;rw [aA];simp
     omega
   simp only [QI] at h;omega
  ·obtain ⟨z,hz,hy⟩:=List.mem_flatMap.1 hy;refine ih z hz ?_ y hy
   have:=zX hz
   simp only [QI] at h;omega
theorem FB {q:fF} (h:CB q<=300):q.au.length+q.conds.length+q.ret.length<=300∧ ∀p∈q.au,p.expr.lens 1000000:=by
 refine ⟨Nat.le_trans (E4 _ _) h,fun p hp=>y6 _ ?_⟩;have h1:=E5 _ _ h p hp
 have:=wN _ _ h1
 omega
theorem xd (xs ys:List dK):ah Tryz.prog 14 [.aE 13 (xs.map aK) xs.length, .aE 13 (ys.map aK) ys.length] (.v (.bool (fp dK.jX xs ys))):=
 .j7 (by kernel_rfl) (by simp only [bw,AV.wf,iH,SE]) (fun D nu w vargs h=>by
  obtain ⟨x,y,rfl,hx,hy⟩:=mv h
  exact rn xs ys x y w (uu hx) (uu hy))
theorem xh: ∀(ps:List bV) (x:bV),x∈ps->nF ps=0->nF (ps++[x])=0
 | [],x,h,_=>by cases h
 | p :: ps,x,h,h0=>by
  rw [nF] at h0;rw [SB,nF]
  split at h0
  ·rename_i hc;rw [h0] at hc;simp at hc
  ·rename_i hc;rw [if_neg hc]
   rcases Sj.1 h with rfl|h
   ·clear h
    induction ps with
    | nil=>rw [SA,nF,if_neg hc,nF]
    | cons b ps ih=>
     rw [nF] at h0;rw [SB,nF]
     split at h0
     ·rename_i hb;rw [h0] at hb;simp at hb
     ·rename_i hb;rw [if_neg hb];exact ih h0
   ·exact xh ps x h h0
theorem y8 {q:fF} {x:bV} (hx:x∈q.au) (hn:eU x.name=true) (h0:gm q=0) (h1:iT ⟨q.au++[x],q.conds,q.ret,q.range,q.gq⟩=0):gB ⟨q.au++[x],q.conds,q.ret,q.range,q.gq⟩=gB q:=by
 have hs:=ug (p:=x) (.inr hn)
 have e0:nF q.au=0:=by
  unfold gm at h0
  split at h0
  ·rename_i hc;exact absurd h0 hc
  ·exact h0
 have e1:gm ⟨q.au++[x],q.conds,q.ret,q.range,q.gq⟩=0:=by
  rw [gm,if_neg (by simpa using h1)];exact xh _ _ hx e0
 have e2:gC ⟨q.au++[x],q.conds,q.ret,q.range,q.gq⟩=gC q:=by
  rw [gC,gC];show il (q.au++[x]) (gj (q.au++[x])) [] q.conds=_;rw [Fw hx hs,qJ _ _ _ (fun k hk=>Ak hk)]
 rw [gB,gB,e1,h0,e2]
theorem nn (q:fF) (k:Int) (hq:q.small) (oq:q.ok):ah Tryz.prog 3 [.agg (b8 q), .v (.int .i64 k)] (.v (.bool true)):=by
 have S1:=Fu q hq;have W:=Bl
 by_cases hz:CB q<=300
 ·have hd:decide ((300:Int)<((CB q:Nat):Int))=false:=decide_eq_false (by omega);obtain ⟨hz1,hz2⟩:=FB hz
  by_cases hp0:q.au.length=0
  ·have hp1:(((q.au.length:Nat):Int)==0)=true:=by rw [hp0];rfl
   obtain ⟨ps,cs,rs,ra,sl⟩:=q;simp only [b8] at *
   (refine ah.enter Tryz.func3 rfl (by kernel_rfl) (by kernel_rfl) rfl (by first|rfl|(simp only [go_sem,SE,R0,R3])) (by first|rfl|(simp only [go_sem,SE,R0,R3])) ?_;simp only [Tryz.ntmps3,Tryz.results3,QI,QC,Nat.reduceAdd,Nat.reduceSub,SG,SH,SB,SA])
   repeat (first|(with_reducible first|refine af.up ?_|refine fun (K:AK) hK=> ?_|refine aB (by kernel_rfl) (by kernel_rfl) (by kernel_rfl) ?_|refine ak (by decide) ?_|refine aN ?_|refine aO ?_|refine ag (by decide) ?_|refine aw (by decide) ?_|(refine hK _ ?_;clear hK K))|simp only [go_sem]|with_reducible refine wA ?_|(refine aX rfl ?_)|clear hK K)
   refine ae.one W ?_
   repeat (first|(with_reducible first|refine af.up ?_|refine fun (K:AK) hK=> ?_|refine aB (by kernel_rfl) (by kernel_rfl) (by kernel_rfl) ?_|refine ak (by decide) ?_|refine aN ?_|refine aO ?_|refine ag (by decide) ?_|refine aw (by decide) ?_|(refine hK _ ?_;clear hK K))|simp only [go_sem]|with_reducible refine wA ?_|(refine aX rfl ?_)|clear hK K)
   refine ae.one S1 ?_
   repeat (first|(with_reducible first|refine af.up ?_|refine fun (K:AK) hK=> ?_|refine aB (by kernel_rfl) (by kernel_rfl) (by kernel_rfl) ?_|refine ak (by decide) ?_|refine aN ?_|refine aO ?_|refine ag (by decide) ?_|refine aw (by decide) ?_|(refine hK _ ?_;clear hK K))|simp only [go_sem,hd,hp1,Go.undef]|with_reducible refine wA ?_|(refine aX rfl ?_)|clear hK K)
  ·have hp1:(((q.au.length:Nat):Int)==0)=false:=by rw [beq_eq_false_iff_ne];omega
   have hpk:=nX (x:=k) (n:=(q.au.length:Int)) (by have:0<q.au.length:=Nat.pos_of_ne_zero hp0;omega);have PK:=JF k (q.au.length:Int) (by omega);obtain ⟨j,hj⟩: ∃j:Nat,j9 k (q.au.length:Int)=(j:Int):=⟨(j9 k (q.au.length:Int)).toNat,by have:=hpk.1;omega⟩;rw [hj] at PK hpk
   have hjl:j<q.au.length:=by omega
   have OF:=qt q oq (by omega) (by omega) (by omega) hz2;have hxm:q.au[j]∈q.au:=List.getElem_mem hjl;have eG:=getD_map bH q.au j [] hjl
   have eL:(q.au.map bH).length=q.au.length:=by simp
   have eT:(q.au.map bH).take q.au.length=q.au.map bH:=List.take_of_length_le (by simp)
   have hji:(j:Int)<(q.au.length:Int):=by omega
   by_cases he:gm q=0
   ·have okM:(⟨q.au++[q.au[j]],q.conds,q.ret,q.range,q.gq⟩:fF).ok:=⟨fun p hp=>by
     rcases List.mem_append.1 hp with h|h
     ·exact oq.1 p h
     ·rw [List.mem_singleton.1 h];exact oq.1 _ hxm,oq.2.1,oq.2.2⟩
    have lM:(q.au++[q.au[j]]).length=q.au.length+1:=by simp
    have QM:=nA ⟨q.au++[q.au[j]],q.conds,q.ret,q.range,q.gq⟩ okM (by show (q.au++[q.au[j]]).length<=_;omega) (by show q.conds.length<=_;omega) (by show q.ret.length<=_;omega)
    have OM:=qt ⟨q.au++[q.au[j]],q.conds,q.ret,q.range,q.gq⟩ okM (by show (q.au++[q.au[j]]).length<=_;omega) (by show q.conds.length<=_;omega) (by show q.ret.length<=_;omega) (fun p hp=>by
     rcases List.mem_append.1 hp with h|h
     ·exact hz2 p h
     ·rw [List.mem_singleton.1 h];exact hz2 _ hxm)
    have hSn:=y8 hxm (q:=q)
    have hR:gB q = .dA [.agg [.aE 11 ((gC q).map cW) (gC q).length, .aE 6 (q.ret.map df) q.ret.length, .v (.int .i64 q.range), .v (.int .i64 q.gq)], .v (.int .i64 0)]:=by rw [gB,if_neg (by simpa using he)]
    have hSl:(gC q).length<=1000:=by
     have:=(qq q.au (gj q.au) q.conds (gj q.au).length (Nat.le_refl _)).2.2
     rw [wV] at this
     have:=wJ q.au
     rw [gC];omega
    generalize gC q=st at *;rw [hR] at OF hSn;generalize iT ⟨q.au++[q.au[j]],q.conds,q.ret,q.range,q.gq⟩=ce at *;generalize gB ⟨q.au++[q.au[j]],q.conds,q.ret,q.range,q.gq⟩=rM at *;clear hR;simp only [b8,List.map_append,List.map_cons,List.map_nil,lM] at QM OM;simp only [bH] at eG QM OM;generalize q.au[j]=x at *;obtain ⟨ps,cs,rs,ra,sl⟩:=q;simp only [b8] at *
    (refine ah.enter Tryz.func3 rfl (by kernel_rfl) (by kernel_rfl) rfl (by first|rfl|(simp only [go_sem,SE,R0,R3])) (by first|rfl|(simp only [go_sem,SE,R0,R3])) ?_;simp only [Tryz.ntmps3,Tryz.results3,QI,QC,Nat.reduceAdd,Nat.reduceSub,SG,SH,SB,SA])
    repeat (first|(with_reducible first|refine af.up ?_|refine fun (K:AK) hK=> ?_|refine aB (by kernel_rfl) (by kernel_rfl) (by kernel_rfl) ?_|refine ak (by decide) ?_|refine aN ?_|refine aO ?_|refine ag (by decide) ?_|refine aw (by decide) ?_|(refine hK _ ?_;clear hK K))|simp only [go_sem]|with_reducible refine wA ?_|(refine aX rfl ?_)|clear hK K)
    refine ae.one W ?_
    repeat (first|(with_reducible first|refine af.up ?_|refine fun (K:AK) hK=> ?_|refine aB (by kernel_rfl) (by kernel_rfl) (by kernel_rfl) ?_|refine ak (by decide) ?_|refine aN ?_|refine aO ?_|refine ag (by decide) ?_|refine aw (by decide) ?_|(refine hK _ ?_;clear hK K))|simp only [go_sem]|with_reducible refine wA ?_|(refine aX rfl ?_)|clear hK K)
    refine ae.one S1 ?_
    repeat (first|(with_reducible first|refine af.up ?_|refine fun (K:AK) hK=> ?_|refine aB (by kernel_rfl) (by kernel_rfl) (by kernel_rfl) ?_|refine ak (by decide) ?_|refine aN ?_|refine aO ?_|refine ag (by decide) ?_|refine aw (by decide) ?_|(refine hK _ ?_;clear hK K))|simp only [go_sem,hd,hp1,Go.undef]|with_reducible refine wA ?_|(refine aX rfl ?_)|clear hK K)
    refine ae.one OF ?_
    repeat (first|(with_reducible first|refine af.up ?_|refine fun (K:AK) hK=> ?_|refine aB (by kernel_rfl) (by kernel_rfl) (by kernel_rfl) ?_|refine ak (by decide) ?_|refine aN ?_|refine aO ?_|refine ag (by decide) ?_|refine aw (by decide) ?_|(refine hK _ ?_;clear hK K))|simp only [go_sem]|with_reducible refine wA ?_|(refine aX rfl ?_)|clear hK K)
    refine bc.one PK ?_
    repeat ((fail_if_success (with_reducible refine br (i:=8) ?_));first|(with_reducible first|refine af.up ?_|refine fun (K:AK) hK=> ?_|refine aB (by kernel_rfl) (by kernel_rfl) (by kernel_rfl) ?_|refine ak (by decide) ?_|refine aN ?_|refine aO ?_|refine ag (by decide) ?_|refine aw (by decide) ?_|(refine hK _ ?_;clear hK K))|simp only [go_sem,eG,hji]|with_reducible refine wA ?_|(refine aX rfl ?_)|clear hK K)
    refine dU [0,3,6,8] [(2,0),(4,0)] (by decide+kernel) (by kernel_rfl) ?_
    repeat ((fail_if_success (with_reducible refine br (i:=9) ?_));first|(with_reducible first|refine af.up ?_|refine fun (K:AK) hK=> ?_|refine ak (by decide) ?_|refine aN ?_|refine aO ?_|refine ag (by decide) ?_|refine aw (by decide) ?_|(refine hK _ ?_;clear hK K))|simp only [go_sem,eL,eT]|with_reducible refine wA ?_|(refine aX rfl ?_)|clear hK K)
    refine aJ (cm (k:=3) (i:=0) (j:=0) (by decide) rfl (Nat.zero_lt_succ _) rfl rfl rfl rfl (by simp)) (by kernel_rfl) ?_
    by_cases hn:eU x.name=true
    ·have f2:(x.name.toList==(⟨#[]⟩:ByteArray).toList)=true:=by rw [<-gP];exact hn
     by_cases hc:ce=0
     ·have eM:=hSn hn he hc;rw [eM] at OM
      have f3:(ce !=0)=false:=by simp [hc]
      repeat (first|(with_reducible first|refine af.up ?_|refine fun (K:AK) hK=> ?_|refine aB (by kernel_rfl) (by kernel_rfl) (by kernel_rfl) ?_|refine ak (by decide) ?_|refine aN ?_|refine aO ?_|refine ag (by decide) ?_|refine aw (by decide) ?_|(refine hK _ ?_;clear hK K))|simp only [go_sem,f2,Go.undef]|with_reducible refine wA ?_|(refine aX rfl ?_)|clear hK K)
      refine ae.one QM ?_
      repeat (first|(with_reducible first|refine af.up ?_|refine fun (K:AK) hK=> ?_|refine aB (by kernel_rfl) (by kernel_rfl) (by kernel_rfl) ?_|refine ak (by decide) ?_|refine aN ?_|refine aO ?_|refine ag (by decide) ?_|refine aw (by decide) ?_|(refine hK _ ?_;clear hK K))|simp only [go_sem,f2,f3,Go.undef]|with_reducible refine wA ?_|(refine aX rfl ?_)|clear hK K)
      refine ae.one OM ?_
      repeat (first|(with_reducible first|refine af.up ?_|refine fun (K:AK) hK=> ?_|refine aB (by kernel_rfl) (by kernel_rfl) (by kernel_rfl) ?_|refine ak (by decide) ?_|refine aN ?_|refine aO ?_|refine ag (by decide) ?_|refine aw (by decide) ?_|(refine hK _ ?_;clear hK K))|simp only [go_sem,Go.undef]|with_reducible refine wA ?_|(refine aX rfl ?_)|clear hK K)
      refine dq (ι:=Nat) 76 (fun i=>[(11, .v (.int .i64 i)),(12, .undef),(13, .undef)]) (fun i=>st.length - i) (fun i=>i<=st.length) 0 (Nat.zero_le _) ?_ ?_
      ·(refine aj ?_ ?_ ?_<;>simp only [aT,List.foldl_cons,List.foldl_nil,SG,SH,bj,bg,AV.v.injEq,Value.int.injEq,Value.bool.injEq,Value.string.injEq,AV.vec.injEq,AV.ptr.injEq,true_or,or_true,false_or,or_false,aa.mk.injEq,forall_eq_apply_imp_iff,forall_eq,forall_eq',go_sem])
       all_goals first|rfl|exact ⟨rfl,cO _ _⟩|exact ⟨cO _ _,cO _ _,rfl⟩|exact cO _ _|trace_state
      ·intro i hi K hK;have eWi:=aM (k:=i) (by omega)
       by_cases hlt:i<st.length
       ·have e1:decide ((i:Int)<(st.length:Int))=true:=decide_eq_true (by omega);have eGs:=getD_map cW st i [] hlt;have P1:=rp st[i].pat st[i].pat;rw [um] at P1;have T1:=gn st[i].keys st[i].keys;rw [jR] at T1;have T2:=gn st[i].binds st[i].binds;rw [jR] at T2;have C1:=xd st[i].conds st[i].conds;rw [(tp _ _ (fun x _ y=>K9 x y)).2 rfl] at C1;simp only [cW,bH,aS,SB,SA] at eGs;simp only [bH] at P1;simp only [aS] at T1 T2;generalize st[i]=d at *
        repeat (first|(with_reducible first|refine af.up ?_|refine fun (K:AK) hK=> ?_|refine aB (by kernel_rfl) (by kernel_rfl) (by kernel_rfl) ?_|refine ak (by decide) ?_|refine aN ?_|refine aO ?_|refine ag (by decide) ?_|refine aw (by decide) ?_|(refine hK _ ?_;clear hK K))|simp only [go_sem,e1,eGs]|with_reducible refine wA ?_|(refine aX rfl ?_)|clear hK K)
        refine ae.one P1 ?_
        repeat (first|(with_reducible first|refine af.up ?_|refine fun (K:AK) hK=> ?_|refine aB (by kernel_rfl) (by kernel_rfl) (by kernel_rfl) ?_|refine ak (by decide) ?_|refine aN ?_|refine aO ?_|refine ag (by decide) ?_|refine aw (by decide) ?_|(refine hK _ ?_;clear hK K))|simp only [go_sem,Go.undef]|with_reducible refine wA ?_|(refine aX rfl ?_)|clear hK K)
        refine ae.one T1 ?_
        repeat (first|(with_reducible first|refine af.up ?_|refine fun (K:AK) hK=> ?_|refine aB (by kernel_rfl) (by kernel_rfl) (by kernel_rfl) ?_|refine ak (by decide) ?_|refine aN ?_|refine aO ?_|refine ag (by decide) ?_|refine aw (by decide) ?_|(refine hK _ ?_;clear hK K))|simp only [go_sem,Go.undef]|with_reducible refine wA ?_|(refine aX rfl ?_)|clear hK K)
        refine ae.one T2 ?_
        repeat (first|(with_reducible first|refine af.up ?_|refine fun (K:AK) hK=> ?_|refine aB (by kernel_rfl) (by kernel_rfl) (by kernel_rfl) ?_|refine ak (by decide) ?_|refine aN ?_|refine aO ?_|refine ag (by decide) ?_|refine aw (by decide) ?_|(refine hK _ ?_;clear hK K))|simp only [go_sem,Go.undef]|with_reducible refine wA ?_|(refine aX rfl ?_)|clear hK K)
        refine ae.one C1 ?_
        repeat (first|(with_reducible first|refine af.up ?_|refine fun (K:AK) hK=> ?_|refine aB (by kernel_rfl) (by kernel_rfl) (by kernel_rfl) ?_|refine ak (by decide) ?_|refine aN ?_|refine aO ?_|refine ag (by decide) ?_|refine aw (by decide) ?_|(refine hK _ ?_;clear hK K))|simp only [go_sem,Go.undef]|with_reducible refine wA ?_|(refine aX rfl ?_)|clear hK K)
        repeat (first|(with_reducible first|refine af.up ?_|refine fun (K:AK) hK=> ?_|refine aB (by kernel_rfl) (by kernel_rfl) (by kernel_rfl) ?_|refine ak (by decide) ?_|refine aN ?_|refine aO ?_|refine ag (by decide) ?_|refine aw (by decide) ?_|(refine hK _ ?_;clear hK K))|simp only [go_sem,eWi]|with_reducible refine wA ?_|(refine aX rfl ?_)|clear hK K)
        refine aQ.mk (i+1) hlt (by omega) ?_
        (refine aj ?_ ?_ ?_<;>simp only [aT,List.foldl_cons,List.foldl_nil,SG,SH,bj,bg,AV.v.injEq,Value.int.injEq,Value.bool.injEq,Value.string.injEq,AV.vec.injEq,AV.ptr.injEq,true_or,or_true,false_or,or_false,aa.mk.injEq,forall_eq_apply_imp_iff,forall_eq,forall_eq',go_sem])
        all_goals first|rfl|exact ⟨cO _ _,cO _ _,rfl⟩|exact cO _ _|trace_state
       ·have e1:decide ((i:Int)<(st.length:Int))=false:=decide_eq_false (by omega)
        repeat (first|(with_reducible first|refine af.up ?_|refine fun (K:AK) hK=> ?_|refine aB (by kernel_rfl) (by kernel_rfl) (by kernel_rfl) ?_|refine ak (by decide) ?_|refine aN ?_|refine aO ?_|refine ag (by decide) ?_|refine aw (by decide) ?_|(refine hK _ ?_;clear hK K))|simp only [go_sem,e1]|with_reducible refine wA ?_|(refine aX rfl ?_)|clear hK K)
        all_goals trace_state
     ·have f3:(ce !=0)=true:=by simpa using hc
      repeat (first|(with_reducible first|refine af.up ?_|refine fun (K:AK) hK=> ?_|refine aB (by kernel_rfl) (by kernel_rfl) (by kernel_rfl) ?_|refine ak (by decide) ?_|refine aN ?_|refine aO ?_|refine ag (by decide) ?_|refine aw (by decide) ?_|(refine hK _ ?_;clear hK K))|simp only [go_sem,f2,Go.undef]|with_reducible refine wA ?_|(refine aX rfl ?_)|clear hK K)
      refine ae.one QM ?_
      repeat (first|(with_reducible first|refine af.up ?_|refine fun (K:AK) hK=> ?_|refine aB (by kernel_rfl) (by kernel_rfl) (by kernel_rfl) ?_|refine ak (by decide) ?_|refine aN ?_|refine aO ?_|refine ag (by decide) ?_|refine aw (by decide) ?_|(refine hK _ ?_;clear hK K))|simp only [go_sem,f2,f3,Go.undef]|with_reducible refine wA ?_|(refine aX rfl ?_)|clear hK K)
      all_goals trace_state
    ·have f2:(x.name.toList==(⟨#[]⟩:ByteArray).toList)=false:=by
      rw [<-gP];simpa using hn
     repeat (first|(with_reducible first|refine af.up ?_|refine fun (K:AK) hK=> ?_|refine aB (by kernel_rfl) (by kernel_rfl) (by kernel_rfl) ?_|refine ak (by decide) ?_|refine aN ?_|refine aO ?_|refine ag (by decide) ?_|refine aw (by decide) ?_|(refine hK _ ?_;clear hK K))|simp only [go_sem,f2,Go.undef]|with_reducible refine wA ?_|(refine aX rfl ?_)|clear hK K)
     all_goals trace_state
   ·have f1:(gm q !=0)=true:=by simpa using he
    rw [gB,if_pos he] at OF;generalize gm q=pe at *;simp only [bH] at eG;generalize q.au[j]=x at *;obtain ⟨ps,cs,rs,ra,sl⟩:=q;simp only [b8] at *
    (refine ah.enter Tryz.func3 rfl (by kernel_rfl) (by kernel_rfl) rfl (by first|rfl|(simp only [go_sem,SE,R0,R3])) (by first|rfl|(simp only [go_sem,SE,R0,R3])) ?_;simp only [Tryz.ntmps3,Tryz.results3,QI,QC,Nat.reduceAdd,Nat.reduceSub,SG,SH,SB,SA])
    repeat (first|(with_reducible first|refine af.up ?_|refine fun (K:AK) hK=> ?_|refine aB (by kernel_rfl) (by kernel_rfl) (by kernel_rfl) ?_|refine ak (by decide) ?_|refine aN ?_|refine aO ?_|refine ag (by decide) ?_|refine aw (by decide) ?_|(refine hK _ ?_;clear hK K))|simp only [go_sem]|with_reducible refine wA ?_|(refine aX rfl ?_)|clear hK K)
    refine ae.one W ?_
    repeat (first|(with_reducible first|refine af.up ?_|refine fun (K:AK) hK=> ?_|refine aB (by kernel_rfl) (by kernel_rfl) (by kernel_rfl) ?_|refine ak (by decide) ?_|refine aN ?_|refine aO ?_|refine ag (by decide) ?_|refine aw (by decide) ?_|(refine hK _ ?_;clear hK K))|simp only [go_sem]|with_reducible refine wA ?_|(refine aX rfl ?_)|clear hK K)
    refine ae.one S1 ?_
    repeat (first|(with_reducible first|refine af.up ?_|refine fun (K:AK) hK=> ?_|refine aB (by kernel_rfl) (by kernel_rfl) (by kernel_rfl) ?_|refine ak (by decide) ?_|refine aN ?_|refine aO ?_|refine ag (by decide) ?_|refine aw (by decide) ?_|(refine hK _ ?_;clear hK K))|simp only [go_sem,hd,hp1,Go.undef]|with_reducible refine wA ?_|(refine aX rfl ?_)|clear hK K)
    refine ae.one OF ?_
    repeat (first|(with_reducible first|refine af.up ?_|refine fun (K:AK) hK=> ?_|refine aB (by kernel_rfl) (by kernel_rfl) (by kernel_rfl) ?_|refine ak (by decide) ?_|refine aN ?_|refine aO ?_|refine ag (by decide) ?_|refine aw (by decide) ?_|(refine hK _ ?_;clear hK K))|simp only [go_sem]|with_reducible refine wA ?_|(refine aX rfl ?_)|clear hK K)
    refine bc.one PK ?_
    repeat ((fail_if_success (with_reducible refine br (i:=8) ?_));first|(with_reducible first|refine af.up ?_|refine fun (K:AK) hK=> ?_|refine aB (by kernel_rfl) (by kernel_rfl) (by kernel_rfl) ?_|refine ak (by decide) ?_|refine aN ?_|refine aO ?_|refine ag (by decide) ?_|refine aw (by decide) ?_|(refine hK _ ?_;clear hK K))|simp only [go_sem,eG,hji]|with_reducible refine wA ?_|(refine aX rfl ?_)|clear hK K)
    refine dU [0,3,6,8] [(2,0),(4,0)] (by decide+kernel) (by kernel_rfl) ?_
    repeat (first|(with_reducible first|refine af.up ?_|refine fun (K:AK) hK=> ?_|refine ak (by decide) ?_|refine aN ?_|refine aO ?_|refine ag (by decide) ?_|refine aw (by decide) ?_|(refine hK _ ?_;clear hK K))|simp only [go_sem,eL,eT]|with_reducible refine wA ?_|(refine aX rfl ?_)|clear hK K)
    repeat (first|(with_reducible first|refine af.up ?_|refine fun (K:AK) hK=> ?_|refine aB (by kernel_rfl) (by kernel_rfl) (by kernel_rfl) ?_|refine ak (by decide) ?_|refine aN ?_|refine aO ?_|refine ag (by decide) ?_|refine aw (by decide) ?_|(refine hK _ ?_;clear hK K))|simp only [go_sem,f1,Go.undef]|with_reducible refine wA ?_|(refine aX rfl ?_)|clear hK K)
    all_goals trace_state
 ·have hd:decide ((300:Int)<((CB q:Nat):Int))=true:=decide_eq_true (by omega);simp only [b8] at *
  (refine ah.enter Tryz.func3 rfl (by kernel_rfl) (by kernel_rfl) rfl (by first|rfl|(simp only [go_sem,SE,R0,R3])) (by first|rfl|(simp only [go_sem,SE,R0,R3])) ?_;simp only [Tryz.ntmps3,Tryz.results3,QI,QC,Nat.reduceAdd,Nat.reduceSub,SG,SH,SB,SA])
  repeat (first|(with_reducible first|refine af.up ?_|refine fun (K:AK) hK=> ?_|refine aB (by kernel_rfl) (by kernel_rfl) (by kernel_rfl) ?_|refine ak (by decide) ?_|refine aN ?_|refine aO ?_|refine ag (by decide) ?_|refine aw (by decide) ?_|(refine hK _ ?_;clear hK K))|simp only [go_sem]|with_reducible refine wA ?_|(refine aX rfl ?_)|clear hK K)
  refine ae.one W ?_
  repeat (first|(with_reducible first|refine af.up ?_|refine fun (K:AK) hK=> ?_|refine aB (by kernel_rfl) (by kernel_rfl) (by kernel_rfl) ?_|refine ak (by decide) ?_|refine aN ?_|refine aO ?_|refine ag (by decide) ?_|refine aw (by decide) ?_|(refine hK _ ?_;clear hK K))|simp only [go_sem]|with_reducible refine wA ?_|(refine aX rfl ?_)|clear hK K)
  refine ae.one S1 ?_
  repeat (first|(with_reducible first|refine af.up ?_|refine fun (K:AK) hK=> ?_|refine aB (by kernel_rfl) (by kernel_rfl) (by kernel_rfl) ?_|refine ak (by decide) ?_|refine aN ?_|refine aO ?_|refine ag (by decide) ?_|refine aw (by decide) ?_|(refine hK _ ?_;clear hK K))|simp only [go_sem,hd,Go.undef]|with_reducible refine wA ?_|(refine aX rfl ?_)|clear hK K)
open Go.ChangeShapes Go.WideShapes Go.ChangeAt Go.WideMaps Go.WideElems Go.RowKit
namespace planDoubles
theorem own:ownKnob Tryz.prog.godebug=none:=by kernel_rfl
theorem laid:laidOutB Tryz.prog=true:=by kernel_rfl
theorem D7 (H:Type) (enc:TypeId×Value->H) (W:World) (args:Array Value) (ds gs:List (DataW H)) (before:List MemPlace) (base:Nat)
  (hval: ∀(j:Nat) t v,Tryz.f3.params[j]? = some t->args[j]? = some v->Value.okWide Tryz.prog W .any base t v)
  (hW:DataW.Whole enc Tryz.prog Tryz.f3.params.toList Rows.planDoublesSpec.vars false W args.toList ds gs before)
  (hsz:(DataW.weightsEach Tryz.prog (Tryz.f3.params.toList++Rows.planDoublesSpec.plain.varTypes Tryz.prog) (ds++gs)).all (· <= reachBytes)=true)
  (hL:laidMetH Tryz.prog Rows.planDoublesRow.laid W) :
  Calls Tryz.prog 3 args W fun e W'=> ∃v,e = .returned v∧Rows.planDoublesSpec.post enc Tryz.prog Tryz.f3 false true false false W args v W':=by
 have hW':=hW;have hlt:=hW.lt;obtain ⟨p,q,hA,hV,rfl,hfz,hnd⟩:=hW;rw [Tryz.params3] at hA hsz hval;obtain ⟨v0,v1,d0,d1,p0,p1,rfl,rfl,rfl,h0,h1⟩:=trodAll_two hA;obtain ⟨rfl,rfl⟩:=trodVars_none hV
 have z0: ∀k∈d0.weights Tryz.prog 26,k<=reachBytes:=fun k hk=>by
  have:=List.all_eq_true.1 hsz k (DataW.weights_mem_each (j:=0) (t:=26) (d:=d0) rfl rfl k hk)
  simpa using this
 obtain ⟨q0,c0,rfl,r0,s0,o0⟩:=FI h0 z0;obtain ⟨q1,rfl,_,_,_⟩:=open_int Tryz.underlying3 (hval 1 3 v1 rfl rfl) h1
 refine ((nn q0 q1 s0 o0).J5 (w:=W) (vargs:= #[.agg c0.toArray, .int .i64 q1]) ⟨rfl,fun i c x hc hx=> ?_⟩ (BO hL)).mono fun e W' he=> ?_
 ·match i,hc,hx with
  | 0,hc,hx=>cases hc;cases hx;exact JM (fun _ _=>trivial) r0
  | 1,hc,hx=>cases hc;cases hx;exact .v _
  | i+2,hc,hx=>simp at hc
 obtain ⟨rfl,hb⟩:=he
 refine ⟨_,rfl,_,_,_,[],p0++p1,[],hW', ?_, ?_,rfl,hb.frame _,fun h=>by cases h⟩
 ·exact trodAll_mk1 (shut_bool Tryz.underlying4 _)
 ·exact trodAll_mk2 (Below.trod laid (by kernel_rfl) (of_decide_eq_true (by kernel_rfl)) h0 hb (fun x hx=>hlt x (by simp [hx]))) (Below.trod laid (by kernel_rfl) (of_decide_eq_true (by kernel_rfl)) h1 hb (fun x hx=>hlt x (by simp [hx])))
theorem Ea (os:Os) (args:Array Value):laidMetH Tryz.prog Rows.planDoublesRow.laid ((World.doorLaid Tryz.prog 400 os).forCall (fun _ _=>0) ⟨#[],args,[]⟩).memory:=
 laidMetH_of_parts3 (fuel:=8) (laidMet_of_run' 8 (by kernel_rfl) (by kernel_rfl)) (by kernel_rfl) (by kernel_rfl)
theorem lifted (os:Os) (started:os.Started) (H:Type) (enc:TypeId×Value->H) :
  ReturnsInHanded {} Tryz.checked os 3 .any (fun w args=>(Rows.planDoublesSpec.pre enc Tryz.prog Tryz.f3 [] false w args∧laidMetH Tryz.prog Rows.planDoublesRow.laid w)∧sizedMet enc Tryz.prog Tryz.f3 (OpenSpec.ofChange Rows.planDoublesSpec) false w args)
   (Rows.planDoublesSpec.post enc Tryz.prog Tryz.f3 false true false false):=by
 refine returnsInHanded_of_change_and (C:=Tryz.checked) (X:=fun w _=>laidMetH Tryz.prog Rows.planDoublesRow.laid w) (fun _ _ _ hh h=>h.of_heap hh) own started (by kernel_rfl) Tryz.func3
  (ChangeSpec.witness_shaped (enc:=enc) (C:=Tryz.checked) (os:=os) (X:=fun w _=>laidMetH Tryz.prog Rows.planDoublesRow.laid w) false (World.doorLaid Tryz.prog 400 os) #[.agg #[.slice none 0 0, .slice none 0 0, .slice none 0 0, .int .i64 0, .int .i64 0], .int .i64 0] 8 rfl (World.shaped_of_RefB (by kernel_rfl) (by kernel_rfl)) (by kernel_rfl) (by kernel_rfl) (by kernel_rfl) (Ea os _)) ?_
 intro W base args ds gs before hval hW _ hsz hL _;exact D7 H enc W args ds gs before base hval hW hsz hL
theorem over:Rows.planDoublesRow.holds Tryz.pinned (OpenSpec.ofChange Rows.planDoublesSpec):=
 OpenClaim.holds_of_wide 3 Tryz.f3 rfl rfl rfl rfl rfl rfl rfl ⟨rfl,rfl,rfl,rfl,rfl⟩ rfl rfl rfl rfl rfl (by kernel_rfl) Tryz.func3 (by kernel_rfl)
  (of_decide_eq_true (by kernel_rfl)) (by unfold Func.isWrapper;first|(rw [if_pos (by decide+kernel)];kernel_rfl)|(rw [if_neg (by decide+kernel)];exact ⟨rfl,rfl⟩))
  (fun os started H enc _=>lifted os started H enc)
theorem proved:Rows.PlanDoublesCardSaid:=
 Claim7.holds_tied_plain_at .later [] [.data, .data, .data] true _ false
  over (fun _ h=>by cases h) (by kernel_rfl) (fun _ h=>by cases h) planDoubles_row_tie rfl ⟨rfl,rfl⟩ (by kernel_rfl) rfl
  (fun f fn hf hfn=>by
   obtain rfl:f=3:=(Qx ((show Tryz.prog.funcNamed "kinescope/kinescopelaw18.PlanDoubles" = some 3 by kernel_rfl).symm.trans hf)).symm
   obtain rfl:fn=Tryz.f3:=(Qx (Tryz.func3.symm.trans hfn)).symm
   exact ⟨by kernel_rfl,fun j t ht=>by
    rw [Tryz.params3] at ht
    have hm:t∈[26,3]:=by simpa using Array.mem_of_getElem? ht
    have hall:([26,3].all fun u=> !Tryz.prog.wantsStandIn u)=true:=by kernel_rfl
    exact (show Tryz.prog.wantsStandIn t=false by simpa using List.all_eq_true.1 hall t hm)⟩)
  (by kernel_rfl)
end planDoubles
theorem planDoubles_holds:Rows.PlanDoublesCardSaid:=planDoubles.proved
#print axioms planDoubles_holds
end
end Go.Proofs.YtjcobjgjjlahdaaGreatDoor
