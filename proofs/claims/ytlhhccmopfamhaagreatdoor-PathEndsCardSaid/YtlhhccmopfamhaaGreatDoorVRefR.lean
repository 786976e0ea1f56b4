/- texts of one claim, one behind the other. -/
import Derived.Test.YtlhhccmopfamhaaGreatDoorVLent
import Derived.Test.YtlhhccmopfamhaaGreatDoorVPairsW
import Derived.Test.YtlhhccmopfamhaaGreatDoorVMat
import Derived.Test.YtlhhccmopfamhaaGreatDoorVAbsV
import Derived.WideKeyEntry
import Derived.Test.YtlhhccmopfamhaaGreatDoorVDfaQ
import Derived.Shelf.SlMaps.Equal
set_option linter.unusedSimpArgs false
set_option linter.unusedVariables false
set_option maxRecDepth 100000
set_option maxHeartbeats 16000000
open Array renaming toList_modify -> ag5
open Bool renaming true_or -> ag1, false_or -> ag2, false_eq_true -> afq, and_true -> afe, and_self -> agp
open Go.ChangeMaps renaming modify_eq_set -> ag6
open Go.WideElems renaming findIdx_arr -> ag3, findIdx_born -> ag4
open List renaming take_of_length_le -> agH, map_cons -> afZ, mem_cons -> afO, foldl_cons -> afD, length_cons -> ae0, not_mem_nil -> af1, map_nil -> agt, length_nil -> aeg, cons_append -> afz, nil_append -> afy, replicate_succ -> afJ, replicate_zero -> afK, getElem?_cons_zero -> afr, getElem?_cons_succ -> afs, mem_of_getElem? -> aeG, getElem?_eq_some_iff -> aek, foldl_nil -> afE, take_succ_eq_append_getElem -> agD, take_length -> agE, append_nil -> agn, mem_map -> agR, nodup_nil -> ae1, pairwise_cons -> af6, mem_cons_of_mem -> aeX, getElem_mem -> afm, mem_iff_getElem -> ag9, length_set -> agZ, map_set -> ago, map_append -> agN, length_map -> agv, set_cons_zero -> afH, set_cons_succ -> afG
open Nat renaming zero_le -> aen, mul_le_mul -> ag8, le_refl -> aed, lt_add_one -> agq, zero_lt_one -> agr, not_lt_zero -> aha, lt_or_ge -> aei, lt_succ_iff_lt_or_eq -> ahb
open Option renaming map_some -> aeE, map_none -> ag7
open Option.some renaming injEq -> aep
namespace Go.Proofs.YtlhhccmopfamhaaGreatDoor
open Go.RowKit
open Go.Proofs.Tryz
mutual
def qX:Ex->Nat->Nat
 | .mk _ _ l,deep=>if 60<deep then 61 else qL l (deep+1) 1
def qL:IO->Nat->Nat->Nat
 | [],_,n=>n
 |x::xs,d,n=>if n<=60 then qL xs d (n+qX x d)else n
end
theorem KO:∀(l:IO)(d n k:Nat)(h:k<l.length),qL (l.take k) d n<=60->qL (l.take (k+1)) d n=qL (l.take k) d n+qX l[k] d
 | [],_,_,_,h,_=>by simp at h
 |x::xs,d,n,0,_,hn=>by
  simp only[List.take_zero,qL]at hn⊢;simp[qL,hn]
 |x::xs,d,n,k+1,h,hn=>by
  simp only[List.take_succ_cons,qL,List.getElem_cons_succ]at hn⊢
  by_cases q:n<=60
  ·rw[if_pos q]at hn⊢;rw[if_pos q];exact KO xs d _ k (by simpa using h) hn
  ·rw[if_neg q]at hn;omega
theorem KN:∀(l:IO)(d n k:Nat),60<qL (l.take k) d n->qL l d n=qL (l.take k) d n
 | [],_,_,_,_=>zk
 |x::xs,d,n,0,hn=>by
  simp only[List.take_zero,qL]at hn⊢;rw[if_neg zd]
 |x::xs,d,n,k+1,hn=>by
  simp only[List.take_succ_cons,qL]at hn⊢
  by_cases q:n<=60
  ·rw[if_pos q]at hn⊢;rw[if_pos q];exact KN xs d _ k hn
  ·rw[if_neg q,if_neg q]
mutual
theorem QN:∀(x:Ex)(d:Nat),d<=61->1<=qX x d∧qX x d<=61+60*(61-d)
 | .mk _ _ l,d,h=>by
  rw[qX]
  split
  ·omega
  ·have:=I9 l (d+1) 1 zd;omega
theorem I9:∀(l:IO)(d n:Nat),d<=61->n<=qL l d n∧qL l d n<=max n (121+60*(61-d))
 | [],d,n,h=>by rw[qL];omega
 |x::xs,d,n,h=>by
  rw[qL]
  split
  ·have u:=QN x d h;have q:=I9 xs d (n+qX x d) h;omega
  ·omega
end
theorem L2(x:Ex):∀d:Nat,d<=61->aj prog 26 [.agg (aP x),.v (.int .i64 d)] (.v (.int .i64 (qX x d:Nat))):=by
 induction x using Ex.ind with
 |h k s l ih=>
  intro d hd61;simp only[aB,qX,Ex.kind,Ex.label,Ex.kids]
  by_cases A:60<d
  ·rw[if_pos A];have u:decide (60<(d:Int))=true:=b0;refine gE func26 ntmps26 results26 ?_;refine ak u ?_
   rfl
  ·rw[if_neg A];have u:decide (60<(d:Int))=false:=bi;have eD:=ae (k:=d) zd;refine gE func26 ntmps26 results26 ?_
   (refine ak u ?_;intro K hK)
   refine aZ (ι:=Nat) 9 (λi=>[(5,.v (.int .i64 (qL (l.take i) (d+1) 1:Nat))),(6,.v (.int .i64 i))]) (λi=>l.length-i) (λi=>i<=l.length∧i+1<=qL (l.take i) (d+1) 1) 0 ⟨aen _,Nat.le_refl _⟩ ?_ ?_
   ·refine ab (bF ?_) ar ar;exact⟨rfl,rfl⟩
   rintro i ⟨hi,V⟩ K hK;have Y:=I9 (l.take i) (d+1) 1 zd
   (revert K;revert K;refine ag ?_;iterate 5 intro K hK)
   refine cn.part (λh=>?_) (λh=>?_)
   ·have q:i<l.length:=by replace h:=cq h;omega
    by_cases O:qL (l.take i) (d+1) 1<=60
    ·have eW:=ae (k:=i) zd;have eG:=getD_map aP l i [] q;have HX:=ih l[i] (List.getElem_mem q) (d+1) zd;have eT:=KO l (d+1) 1 i q O;have U:=QN l[i] (d+1) zd;have H:decide (((qL (l.take i) (d+1) 1:Nat):Int)<=60)=true:=b0
     have eS:IntKind.i64.wrap (((qL (l.take i) (d+1) 1:Nat):Int)+((qX l[i] (d+1):Nat):Int))=((qL (l.take (i+1)) (d+1) 1:Nat):Int):=by rw[bS zd zd,eT];omega
     simp only[aB]at HX eG
     ((iterate 5 revert K);refine ak (qu H h eG @aB eD) ?_;iterate 4 intro K hK)
     ((iterate 4 revert K);refine Pk HX eS eW ?_)
     exact aw.mk (i+1) ⟨zd,zd⟩ zd (by exact ab ar ar ar)
    ·have eT:=KN l (d+1) 1 i zd;have H:decide (((qL (l.take i) (d+1) 1:Nat):Int)<=60)=false:=bi
     ((iterate 5 revert K);refine fb H h ?_)
     rw[eT]
   ·have W:l.take i=l:=by rw[show i=l.length by replace h:=cq h;omega,List.take_length]
    ((iterate 5 revert K);exact Vr W h)
def Pq(E:IR):Bool:=(E.take 30).any (λe=>decide (30<e.props.length))
def Mj(x:Ex)(E:IR):Bool:=Pq E||(decide (60<qX x 0)||decide (30<E.length))
theorem TF{x:Ex}{E:IR}(h:Mj x E=false):E.length<=30∧∀e∈E,e.props.length<=30:=by
 simp only[Mj,Bool.or_eq_false_iff,decide_eq_false_iff_not]at h;obtain⟨q, -,A⟩:=h;refine⟨zd,λe u=>?_⟩;rw[Pq,agH zd]at q
 have:=List.any_eq_false.1 q e u
 simpa using this
theorem Mk(x:Ex)(E:IR)(hl:E.length<=140737488355328):aj prog 8 [.agg (aP x),.aA 5 (E.map aU) E.length] (.v (.bool (Mj x E))):=by
 have SZ:=L2 x 0 zd;rw[Mj];simp only[aB]at SZ⊢;refine gE func8 ntmps8 results8 ?_
 (refine ag ?_;intro K hK)
 refine aZ (ι:=Nat) 5 (λi=>[(5,.v (.int .i64 i))]) (λi=>30-i) (λi=>i<=E.length∧i<=30∧Pq (E.take i)=false) 0 ⟨aen _,aen _,rfl⟩ ?_ ?_
 ·refine ab (bF ?_) ar ar
  all_goals first|rfl
 ·rintro i ⟨hi,h30,Y⟩ K hK
  by_cases h:i<E.length∧i<30
  ·obtain⟨U,h2⟩:=h;have d1:decide ((i:Int)<(E.length:Int))=true:=b0;have d2:decide ((i:Int)<30)=true:=b0;have W:=getD_map aU E i [] U;simp only[aU]at W;have ws:=ae (k:=i) zd
   have hs:Pq (E.take (i+1))=(Pq (E.take i)||decide (30<E[i].props.length)):=by
    have t1:(E.take (i+1)).take 30=E.take (i+1):=agH (by rw[List.length_take];omega);have t2:(E.take i).take 30=E.take i:=agH (by rw[List.length_take];omega);rw[Pq,Pq,t1,t2,List.take_succ_eq_append_getElem U,List.any_append];simp
   by_cases hb:30<E[i].props.length
   ·have d3:decide (30<(E[i].props.length:Int))=true:=b0
    have O:Pq E=true:=by
     rw[Pq,List.any_eq_true];exact⟨E[i],by rw[List.mem_take_iff_getElem];exact⟨i,zd,rfl⟩,decide_eq_true hb⟩
    rw[O,ag1]
    (revert K;revert K;exact vW (pt d1 d2 W d3))
   ·have d3:decide (30<(E[i].props.length:Int))=false:=bi
    (revert K;revert K;refine ak (qu d1 d2 W d3 ws) ?_)
    exact aw.mk (i+1) ⟨U,h2,by rw[hs,Y,decide_eq_false hb];rfl⟩ zd (by exact ab ar ar ar)
  ·have H:Pq E=false:=by
    have:E.take 30=(E.take i).take 30:=by
     rw[List.take_take]
     rcases Nat.lt_or_ge i 30 with q|q
     ·rw[agH (show E.length<=30 by omega),agH zd]
     ·rw[show min 30 i=30 by omega]
    rw[Pq,this];exact Y
   by_cases U:i<E.length
   ·have d1:decide ((i:Int)<(E.length:Int))=true:=b0;have d2:decide ((i:Int)<30)=false:=bi
    (revert K;revert K;refine fb d1 d2 ?_;intro K hK K hK)
    refine ah.one SZ ?_
    by_cases A:60<qX x 0
    ·have u:decide (60<((qX x 0:Nat):Int))=true:=b0
     (revert K;revert K;refine ak u ?_)
     rw[decide_eq_true A,ag1,Bool.or_true]
    ·have u:decide (60<((qX x 0:Nat):Int))=false:=bi
     have V:decide (30<(E.length:Int))=decide (30<E.length):=by rw[decide_eq_decide];omega
     (revert K;revert K;refine fb u V ?_)
     rw[decide_eq_false A,ag2,H,ag2]
   ·have d1:decide ((i:Int)<(E.length:Int))=false:=bi
    (revert K;revert K;refine ak d1 ?_;intro K hK K hK)
    refine ah.one SZ ?_
    by_cases A:60<qX x 0
    ·have u:decide (60<((qX x 0:Nat):Int))=true:=b0
     (revert K;revert K;refine ak u ?_)
     rw[decide_eq_true A,ag1,Bool.or_true]
    ·have u:decide (60<((qX x 0:Nat):Int))=false:=bi
     have V:decide (30<(E.length:Int))=decide (30<E.length):=by rw[decide_eq_decide];omega
     (revert K;revert K;refine fb u V ?_)
     rw[decide_eq_false A,ag2,H,ag2]
theorem qb(L:PL)(hl:L.length<=1000000):aj prog 15 [.aA 3 (L.map aK) L.length,.aA 3 (L.map aK) L.length] (.v (.bool true)):=by
 have eN:(L.map aK).length=L.length:=zk
 refine gE func15 ntmps15 results15 ?_
 (refine bc ?_;intro K hK)
 refine aZ (ι:=Nat) 5 (λi=>[(5,.v (.int .i64 i))]) (λi=>L.length-i) (λi=>i<=L.length) 0 (aen _) ?_ ?_
 ·refine ab (bF ?_) ar ar
  all_goals first|rfl|exact bu _ _
 ·rintro i hi K hK
  rcases Nat.lt_or_ge i L.length with h|h
  ·have d1:decide ((i:Int)<(L.length:Int))=true:=b0;have q:=getD_map aK L i [] h;simp only[aK]at q;have ws:=ae (k:=i) zd;generalize L[i]=p at *
   repeat(first|(with_reducible first|refine bA.up ?_|refineλ(K:AK)hK=>?_|refine wD ?_|(refine hK _ ?_;clear hK K))|simp only[go_sem,d1,q,eN,beq_self_eq_true,bne_self_eq_false,Bool.not_true,ws]|with_reducible refine wA ?_|clear hK K)
   exact aw.mk (i+1) h zd (by exact ab ar ar ar;all_goals exact bu _ _)
  ·have d1:decide ((i:Int)<(L.length:Int))=false:=bi
   repeat(first|(with_reducible first|refine bA.up ?_|refineλ(K:AK)hK=>?_|refine wD ?_|(refine hK _ ?_;clear hK K))|simp only[go_sem,d1,beq_self_eq_true]|with_reducible refine wA ?_|clear hK K)
theorem yX(k:Int)(rows:List C5)(n:Nat)(u:bE 0 rows=true):aj prog 22 [.v (.int .i64 k),.aA 3 rows n] (.agg [.v (.int .i64 k),.v (.string ⟨#[]⟩),.aA 3 rows n]):=by
 (refine aj.enter func22 rfl zo zo rfl (by simp only[go_sem,aQ,AV.wf,Bool.and_self,Bool.and_true,Bool.true_and,u]) (by simp only[go_sem,aQ,AV.wf,bz,Bool.and_self,Bool.and_true,Bool.true_and,u]) ?_;simp only[ntmps22,results22,List.length_cons,List.length_nil,Nat.reduceAdd,Nat.reduceSub,List.replicate_succ,List.replicate_zero,List.cons_append,List.nil_append])
 repeat' (first|(with_reducible first|refine bA.up ?_|refineλ(K:AK)hK=>?_|(refine hK _ ?_;clear hK K))|simp only[go_sem]|clear hK K|(with_reducible refine ah.one zf ?_)|(with_reducible refine bQ.one zf ?_)|(refine cn.part (λq=>?_) (λq=>?_)<;>simp only[q,go_sem])|(refine cn.part (λq=>?_) (λq=>?_))|(with_reducible refine oV.mk ?_ ?_))
 refine iE.of 40 rfl ?_;simp only[go_sem,u]
theorem u9(s:ByteArray):aj prog 21 [.v (.string s)] (.agg [.v (.int .i64 1),.v (.string s),.v (.slice none 0 0)]):=by
 refine gE func21 ntmps21 results21 ?_
 repeat' (first|(with_reducible first|refine bA.up ?_|refineλ(K:AK)hK=>?_|(refine hK _ ?_;clear hK K))|simp only[go_sem]|clear hK K|(with_reducible refine ah.one zf ?_)|(with_reducible refine bQ.one zf ?_)|(refine cn.part (λq=>?_) (λq=>?_)<;>simp only[q,go_sem])|(refine cn.part (λq=>?_) (λq=>?_))|(with_reducible refine oV.mk ?_ ?_))
 (refine iE.of 40 rfl ?_;simp only[go_sem])
theorem nq(a b l:ByteArray)(t:Int):aj prog 20 [.v (.string a),.v (.string b),.v (.string l),.v (.int .i64 t)] (.agg [.v (.string a),.v (.string b),.v (.string l),.v (.int .i64 t),.v (.slice none 0 0)]):=by
 refine gE func20 ntmps20 results20 ?_
 repeat' (first|(with_reducible first|refine bA.up ?_|refineλ(K:AK)hK=>?_|(refine hK _ ?_;clear hK K))|simp only[go_sem]|clear hK K|(with_reducible refine ah.one zf ?_)|(with_reducible refine bQ.one zf ?_)|(refine cn.part (λq=>?_) (λq=>?_)<;>simp only[q,go_sem])|(refine cn.part (λq=>?_) (λq=>?_))|(with_reducible refine oV.mk ?_ ?_))
 (refine iE.of 40 rfl ?_;simp only[go_sem])
section
variable {P:Program}
def Hd(l:GE)(d:Nat->Bool):Prop:=∀j i,i<l.length->d j=true->bd l.toArray j i=true->d i=true
def nW(d:Nat->Bool)(k:Nat):Nat->Bool:=λj=>if j=k then true else d j
def WG(P:Program)(l:GE)(val:Nat->Value)(W:(Nat->Bool)->World)(Q:Act->World->Prop):GE->Nat->((Nat->Value)->Act)->Prop
 | [],k,A=>∀x d,(∀i,i<k->x i=val i∧d i=true)->Q (A x) (W d)
 |o::rest,k,A=>(∀x d,Hd l d->d k=false->(∀i,i<l.length->bd l.toArray k i=true->x i=val i∧d i=true)->Region.wanted o (yielded l.toArray (A x).tmps)=true ∧
   ((execOp (A x).eval o).run P (W d)=.ok (.value (val k)) (W (nW d k))∨((execOp (A x).eval o).run P (W d)=.ok .skip (W (nW d k))∧val k=Go.undef)))∧WG P l val W Q rest (k+1) (λx=>(A x).put o.dst (x k))
def EL(l:GE)(W:(Nat->Bool)->World):pz:=
 ⟨{d:Nat->Bool // Hd l d},λg=>W g.1,λg g'=>∀j,g.1 j=true->g'.1 j=true,λ_ _ h=>h,λ_ _ _ h k j hj=>k j (h j hj),λj g=>g.1 j=false⟩
def Rp(l:GE)(W:(Nat->Bool)->World)(val:Nat->Value)(i:Nat):jY (EL l W):=⟨λv g=>v=val i∧g.1 i=true,λv g g' hR h=>⟨h.1,hR i h.2⟩⟩
theorem atD{l:GE}{W:(Nat->Bool)->World}{val:Nat->Value}{i:Nat}(h:i<l.length):Co ((List.range l.length).map (Rp l W val)) i=Rp l W val i:=by
 simp[Co,List.getD_eq_getElem?_getD,h]
theorem Qk{l:GE}{val:Nat->Value}{W:(Nat->Bool)->World}{Q:Act->World->Prop}(g0:(EL l W).G):∀(rest:GE)(k:Nat)(A:(Nat->Value)->Act),l.drop k=rest->k<=l.length->WG P l val W Q rest k A->MM P l.toArray ((List.range l.length).map (Rp l W val)) g0 Q rest k A
 | [],k,A,hl,hk,h=>λx g _ U=>h x g.1 (λi hi=>by
   have:=U i hi
   rw[atD zd]at this
   exact this)
 |o::rest,k,A,hl,hk,h=>by
  have V:k<l.length:=by grind
  refine⟨λx g _ U hp=>?_,Qk g0 rest (k+1) _ (by rw[<-List.drop_drop,hl];rfl) zd h.2⟩
  have hd:∀i,i<l.length->bd l.toArray k i=true->x i=val i∧g.1 i=true:=λi hi u=>by
   have:=U i u
   rw[atD hi]at this;exact this
  obtain⟨hw,H⟩:=h.1 x g.1 g.2 hp hd
  have q:Hd l (nW g.1 k):=λj i hi O u=>by
   simp only[nW]at O⊢
   split
   ·rfl
   ·split at O
    ·grind
    ·exact g.2 j i hi O u
  have hR:(EL l W).R g ⟨nW g.1 k,q⟩:=λj O=>by
   grind[nW]
  have hP:∀i,i≠k->(EL l W).pre i g->(EL l W).pre i ⟨nW g.1 k,q⟩:=λi hi hh=>by
   show nW g.1 k i=false;simp only[nW,if_neg hi];exact hh
  have Y:nW g.1 k k=true:=by simp[nW]
  refine .inl ⟨hw,?_⟩;rw[atD V]
  rcases H with H|⟨H,hv⟩
  ·have e:(execOp (A x).eval o).run P ((EL l W).wd g)=.ok (.value (val k)) (W (nW g.1 k)):=H;rw[e];exact⟨⟨nW g.1 k,q⟩,rfl,hR,hP,rfl,Y⟩
  ·have e:(execOp (A x).eval o).run P ((EL l W).wd g)=.ok .skip (W (nW g.1 k)):=H;rw[e];exact⟨⟨nW g.1 k,q⟩,rfl,hR,hP,hv.symm,Y⟩
theorem SJ{Q:Exit->Act->World->Prop}{a:Act}{w:World}{l:GE}(u:tR l.toArray=true)(val:Nat->Value)(W:(Nat->Bool)->World)(q:W (λ_=>false)=w.drew)(h:WG P l val W (Q .normal) l 0 (λ_=>a)) :
  wpAny P .any l.toArray Q l.toArray.size (Array.replicate l.toArray.size false) a w.drew:=
 jE (N:=EL l W) _ u ⟨λ_=>false,λ_ _ _ h=>by cases h⟩ q (λ_=>rfl) (Qk _ l 0 _ rfl (aen _) h)
variable {D:Nat->Prop} {nu:EQ} {o:AC} {w:World}
theorem xF{ks:Nm}{k:C5}{x:AV}(q:lE ks k k=some true):∀{rows:List C5},kN ks k rows=some none->kN ks k (rows++[[.agg k,x]])=some (some x)
 | [],_=>by rw[List.nil_append,kN,q]
 |row::l,h=>by
  unfold kN at h
  split at h
  ·cases ‹row::l=[]›
  ·rename_i A y u e1;cases e1;rw[List.cons_append,kN]
   split at h
   ·cases h
   ·exact xF q h
   ·cases h
  ·cases h
theorem xI{ks:Nm}{k:C5}{x:AV}:∀{rows:List C5},kN ks k rows=some none->mc ks k x rows=some (rows++[[.agg k,x]])
 | [],_=>rfl
 |row::l,h=>by
  unfold kN at h
  split at h
  ·cases ‹row::l=[]›
  ·rename_i u y q e1;cases e1;rw[mc]
   split at h
   ·cases h
   ·rw[xI h];rfl
   ·cases h
  ·cases h
theorem Rf{g:Nat}{es:Array MapEntry}{cl:Nat}(q:w.heap[g]?=some (.map es cl)):{w with heap:=w.heap.setIfInBounds g (.map es cl)}=w:=by
 have:w.heap.setIfInBounds g (.map es cl)=w.heap:=by
  grind
 rw[this]
theorem H4{es:Array MapEntry}(h:∀(i j:Nat)e q,es[i]?=some e->es[j]?=some q->i<j->e.born<q.born):(es.toList.map (·.born)).Nodup:=by
 rw[List.nodup_iff_pairwise_ne,List.pairwise_map,List.pairwise_iff_getElem];intro i j hi u hij
 have:=h i j es.toList[i] es.toList[j] (by grind) (by grind) hij
 omega
theorem Y6{T kt et:TypeId}{ks:Nm}{id:Nat}{ob:aa}{k:C5}{kx vx zx nx:Value}{rows':List C5}{m:Value}(h:RO D nu o w)(hm:RA D nu o w (.vec id 0) m)(hk:RA D nu o w (.agg k) kx)(Y:P.underlying T=some (.map kt et))(O:lW P kt=some ks)(ho:o[id]?=some (some ob))(hV:ob.fc=false)(hz:ob.z=0)(hw:lE ks k k=some true)
  (hl:mA P et ks ob.rows k false=some (.v vx))(hzx:vO P et=some (.v zx))(hs:mc ks k (.v nx) ob.rows=some rows') :
  ∃(W w2:World)(st:Value),(Instr.lookup T m kx false).run P w=.ok vx w∧(Instr.mapEntry T m kx).run P w=.ok (.tuple #[vx,st]) W∧(Instr.lookup T m kx false).run P W=.ok vx W∧(Instr.entryStore T m st nx).run P W=.ok () w2 ∧
   cf nu o w nu (o.set id (some {ob with rows:=rows'})) w2∧RO D nu (o.set id (some {ob with rows:=rows'})) w2:=by
 have hmk:sD P T o (.vec id 0)=some (kt,et,id,ob):=by grind[sD]
 obtain⟨w',hrun,hmono,hro⟩:=kH h hm hk (.v nx) hmk O hV hz hw hs;have hup:=λx rows1(hs1:mc ks k (.v x) ob.rows=some rows1)=>kH h hm hk (.v x) hmk O hV hz hw hs1;obtain⟨g,es,cl,_,_,rfl,q⟩:=rA h hm hmk hV hz
 have hsz:es.toList.length=ob.rows.length:=by simpa using q.sz
 have H:=λem=>Ia (P:=P) O hk hw em;have u:=q.ez;have hgl:=(Array.getElem?_eq_some_iff.1 u).1;have hidl:=(List.getElem?_eq_some_iff.1 ho).1;obtain⟨lv,V,hlx⟩:=rz Y O hk u q.sz q.key q.val hl;rw[hlx.di]at V;have hnd:=H4 q.qT;unfold mA at hl;rw[if_pos hw]at hl;have hkey:∀(j:Nat)row c e,ob.rows[j]?=some row->row[0]?=some c->es.toList[j]?=some e->RA D nu o w c e.key:=λj row c e q1 q2 q3=>q.key j row c e q1 q2 (by grind)
 rcases rB O hk ob.rows es.toList 0 rows' hsz hkey hs with⟨rfl,hf⟩|⟨j,e,rfl,hf,q5,q6,q7⟩
 ·have hq:kN ks k ob.rows=some none:=by
   grind[ry]
  rw[hq]at hl;simp only[hzx,Option.some.injEq,if_false,Bool.false_eq_true,AV.v.injEq]at hl;subst hl;obtain⟨zv,hzr,hzv⟩:=nH (D:=D) (nu:=nu) (o:=o) (w:=w) hzx;rw[hzv.di]at hzr;obtain⟨W,hr1,hm1,hro1⟩:=hup zx _ (xI hq)
  have e1:W={w with heap:=w.heap.setIfInBounds g (.map (es.push ⟨kx,zx,cl⟩) (cl+1))}:=by
   simp[Instr.mapUpdate,run_underlying Y,MapKept.run_getObj_map u,H,cv O,hf,MapKept.run_setObj_map _ u,Result.andThen]at hr1
   grind
  have e2:w'={w with heap:=w.heap.setIfInBounds g (.map (es.push ⟨kx,nx,cl⟩) (cl+1))}:=by
   simp[Instr.mapUpdate,run_underlying Y,MapKept.run_getObj_map u,H,cv O,hf,MapKept.run_setObj_map _ u,Result.andThen]at hrun
   grind
  have hb1:W.heap[g]?=some (.map (es.push ⟨kx,zx,cl⟩) (cl+1)):=by grind
  refine⟨W,w',goInt cl,V,?_,?_,?_,hmono,hro⟩
  ·rw[e1];simp[Instr.mapEntry,run_underlying Y,MapKept.run_getObj_map u,H,cv O,hf,hzr,MapKept.run_setObj_map _ u,Result.andThen]
  ·have hl1:uz P T (o.set id (some {ob with rows:=ob.rows++[[.agg k,.v zx]]})) (.vec id 0) k false=some (ob.fc=false∧ob.z=0,.v zx):=by
    simp only[uz,Y,O,List.getElem?_set_self hidl,mA,if_pos hw,xF hw hq]
    rfl
   obtain⟨v,h1,h2⟩:=vM hro1 (hm.mono hm1 (λ_ _ h=>h)) (hk.mono hm1 (λ_ _ h=>h)) hl1 ⟨hV,hz⟩;rw[h2.di]at h1;exact h1
  ·have A:(es.push ⟨kx,zx,cl⟩).findIdx? (λe=>((e.born:Nat):Int)==((cl:Nat):Int))=some es.size:=by
    rw[ag3];refine ag4 (l:=(es.push ⟨kx,zx,cl⟩).toList) (j:=es.size) (e0:=⟨kx,zx,cl⟩) ?_ zk;simp only[Array.toList_push,List.map_append,List.map_cons,List.map_nil];refine List.nodup_append.2 ⟨hnd,zk,λa ha c hc e1=>?_⟩;simp only[List.mem_singleton]at hc;obtain⟨x,hx,rfl⟩:=List.mem_map.1 ha;obtain⟨i,hi⟩:=List.getElem?_of_mem hx
    have:=q.born i x (by grind)
    omega
   have U:(es.push ⟨kx,zx,cl⟩).modify es.size (λe=>{e with val:=nx})=es.push ⟨kx,nx,cl⟩:=by
    grind
   rw[e2];simp[Instr.entryStore,MapKept.run_getObj_map hb1,asInt,asIntOf,goInt,A,U,MapKept.run_setObj_map _ hb1,Result.andThen];rw[e1];simp
 ·have hj:es[j]?=some e:=by grind
  rw[Nat.zero_add]at hf
  have hvx:vx=e.val:=by
   simp[Instr.lookup,run_underlying Y,MapKept.run_getObj_map u,H,cv O,hf,Result.andThen]at V
   grind
  have hsame:es.modify j (λe=>{e with key:=kx})=es:=by
   apply Array.ext'
   rw[ag5,ag6 _ _ _ _ q5]
   have:({e with key:=kx}:MapEntry)=e:=by rw[<-q6]
   grind[Go.WideElems.set_self]
  have U:es.modify j (λe=>{e with val:=nx})=es.modify j (λe'=>{e' with key:=kx,val:=nx}):=by
   grind[Array.ext',ag5,ag6]
  have A:es.findIdx? (λe=>((e.born:Nat):Int)==((e.born:Nat):Int))=es.findIdx? (λe=>((e.born:Nat):Int)==((e.born:Nat):Int)):=rfl
  have A:es.findIdx? (λe'=>((e'.born:Nat):Int)==((e.born:Nat):Int))=some j:=by
   rw[ag3]
   grind[ag4]
  have e2:w'={w with heap:=w.heap.setIfInBounds g (.map (es.modify j (λe'=>{e' with key:=kx,val:=nx})) cl)}:=by
   simp[Instr.mapUpdate,run_underlying Y,MapKept.run_getObj_map u,H,cv O,hf,hj,q6,q7,MapKept.run_setObj_map _ u,Result.andThen]at hrun
   grind
  refine⟨w,w',goInt e.born,V,?_,V,?_,hmono,hro⟩
  ·simp[Instr.mapEntry,run_underlying Y,MapKept.run_getObj_map u,H,cv O,hf,hj,q6,q7,hsame,MapKept.run_setObj_map _ u,Result.andThen,hvx];exact Rf u
  ·rw[e2];simp[Instr.entryStore,MapKept.run_getObj_map u,asInt,asIntOf,goInt,A,U,MapKept.run_setObj_map _ u,Result.andThen]
theorem jn{a:Act}{d:Tmp}{v:Value}(h:d<a.tmps.size):(a.put (some d) v).eval (.tmp d)=v:=by
 simp[Act.put,Act.eval,h]
theorem jm{a:Act}{d t:Tmp}{v:Value}(h:d≠t):(a.put (some d) v).eval (.tmp t)=a.eval (.tmp t):=Act.eval_put λe u q=>by grind
theorem dv{a:Act}{dst:Option Tmp}{v:Value}:(a.put dst v).tmps.size=a.tmps.size:=by
 cases dst<;>simp[Act.put]
end
def dm(done:L1):L1:=done.map (λp=>(p.1,1))
theorem OU(n:Nd):∀done:L1,bV (dm done) n=if n∈done.map Prod.fst then some 1 else none
 | []=>rfl
 |p::l=>by
  rw[dm,afZ,bV]
  by_cases h:p.1=n
  ·rw[if_pos h,if_pos (by simp[h])]
  ·rw[if_neg h]
   have:=OU n l
   rw[dm]at this;rw[this];have q: ¬n=p.1:=λe=>h e.symm;simp only[afZ,afO,q,false_or]
theorem OW{n:Nd}{τ:Int}:∀{done:L1},n∉done.map Prod.fst->gL (dm done) n 1=dm (done++[(n,τ)])
 | [],_=>rfl
 |p::l,h=>by
  rw[afZ,afO,not_or]at h;rw[dm,afZ,gL,if_neg (Ne.symm h.1)]
  have:=OW (τ:=τ) h.2
  rw[dm]at this;rw[this];rfl
def qW(S:DS):Prop:=∀x∈S.heap,0 <= -x.1∧ -x.1<=1099511627776
theorem UH{st:Nat->ByteArray->Option Nat}{a:Nd}{time:Int}{S:DS}{e:bH}(h:qW S)(A:0<=time∧time<=1099511627776)(H:0<=e.time∧e.time<=1099511627776):qW (wN st a time S e):=by
 unfold wN
 split
 ·exact h
 ·split
  ·intro x u
   rcases List.mem_append.1 ((jL _ _).mem_iff.1 u)with q|q
   ·exact h x q
   ·rw[List.mem_singleton]at q;subst q;simp only;omega
  ·exact h
theorem Gp{st:Nat->ByteArray->Option Nat}{E:IR}{a:Nd}{time:Int}{S:DS}(h:qW S)(u:0<=time∧time<=1099511627776)(A:∀e∈E,0<=e.time∧e.time<=1099511627776):qW (pk st E a time S):=by
 have key:∀(l:IR)(S:DS),(∀e∈l,e∈E)->qW S->qW (l.foldl (wN st a time) S):=by
  intro l
  induction l with
  |nil=>exactλS _ h=>h
  |cons e l ih=>exactλS hl h=>ih _ (λe q=>hl e (List.mem_cons_of_mem _ q)) (UH h u (A e (hl e List.mem_cons_self)))
 exact key _ S (λe q=>(ko.1 q).1) h
theorem Ru{st:Nat->ByteArray->Option Nat}{E:IR}{a:Nd}{time:Int}{S:DS}:(pk st E a time S).heap.length<=S.heap.length+(kX E a.1).length:=by
 have key:∀(l:IR)(S:DS),(l.foldl (wN st a time) S).heap.length<=S.heap.length+l.length:=by
  intro l
  induction l with
  |nil=>exactλS=>Nat.le_refl _
  |cons e l ih=>
   intro S;have u:=ih (wN st a time S e)
   have q:(wN st a time S e).heap.length<=S.heap.length+1:=by
    unfold wN
    split
    ·omega
    ·split
     ·have:=(jL S.heap (-(min time e.time),(S.nodes.length:Int))).length_eq
      simp at this;simp only;omega
     ·omega
   simp only[afD,ae0];omega
 exact key _ S
theorem Uv{S:DS}(h:qW S)(q:S.heap≠[]):qW S.pop:=λx u=>h x ((jR q).2 (.inr u))
def LZ(p:Nd×Int):C5:=[.agg (cJ p.1),.v (.int .i64 p.2)]
def Ec(S:DS)(q:Nat):AC:=[some ⟨108,0,false,cg cJ S.known⟩,some ⟨108,1,false,[[.vec 0 0]]⟩,some ⟨79,2,true,S.nodes.map cJ⟩,some ⟨109,1,false,[[.vec 2 S.nodes.length]]⟩,
 some ⟨162,2,false,[[.vec (if S.heap=[]then 5 else q) S.pop.heap.length,.v (.bool true)]]⟩,(if S.heap=[]then some ⟨115,2,true,S.pop.heap.map bf⟩else none),some ⟨110,1,false,[[.ptr 4 0 2 0 0]]⟩]
def RH(S:DS):Option aa:=if S.heap=[]then none else some ⟨115,2,true,S.pop.heap.map bf⟩
def fS(done:L1):Option aa:=some ⟨107,0,false,cg cJ (dm done)⟩
theorem R5(S:DS):∀ob,some ob∈np S->bE 7 ob.rows=true:=λob h=>by
 simp only[np,afO,aep,af1,or_false]at h
 rcases h with rfl|rfl|rfl|rfl|rfl|rfl|rfl
 ·exact ec _ _
 ·rfl
 ·exact kz _ _
 ·rfl
 ·rfl
 ·exact aR _ _
 ·rfl
theorem ah.cN{A:o8}{E:IR}{G:List (ByteArray×IR)}{a:Nd}{time:Int}{S:DS}{post:AC}{K:AV->AC->Prop}(U:∀v,(qQ G v).getD []=kX E v)(hn:S.heap.length+E.length<=999999)(H:S.nodes.length+E.length<=999999)(q:0<=time∧time<=1099511627776)(V:∀e∈E,0<=e.time∧e.time<=1099511627776)
  (k:K (.ck []) (np (pk (gY A) E a time S)++post)):ah prog 54 [.agg (cJ a),.v (.int .i64 time),.vp [.vp (c6 A),.mp (gk G)],.ptr 1 0 1 0 0,.ptr 6 0 1 0 0,.ptr 3 0 1 0 0] (np S++post) K:=by
 have u:=xh E a.1;refine ah.sub (K0 A E G a time S (U a.1) zd zd q (λe O=>V e (ko.1 O).1)) rfl ?_ (R5 _) (R5 _) rfl k;simp only[cJ,aQ,AV.wf,gm,kA,Bool.and_true];rfl
def Sa(S:DS):Option aa:=some ⟨115,2,false,[bf (aX S.heap 0)]⟩
def TH(S:DS)(done:L1)(pre:Bool):AC:=if pre then Ec S 10++[fS done,none,none,RH S,Sa S]else Ec S 11++[fS done,Sa S,none,none,RH S]
def VI(pre:Bool):Nat:=if pre then 11 else 8
theorem ah.WU{S:DS}{post:AC}{K:AV->AC->Prop}(hl:S.heap.length<=1000000)
  (k:K (.ck [.agg (bf (aX S.heap 0)),.v (.bool (decide (S.heap≠[])))]) (Ec S (9+post.length)++post++[none,none,RH S])):ah prog 58 [.ptr 4 0 2 0 0] (np S++post) K:=by
 have eI:∀f l,cm f (List.map bf l)=List.map bf l:=λf l=>bj _ _ (aR _ _)
 have hlen:(np S++post).length=7+post.length:=by simp[np];omega
 by_cases q:S.heap=[]
 ·rw[decide_eq_false (by simp[q])]at k;have P:=bT.pad WT 3
  refine ah.fr [4,5] P zk ?_ rfl rfl ?_ ?_
  ·simp only[np,q];rfl
  ·intro j ob u
   match j,u with
   |0,u=>cases u;rfl
   |1,u=>cases u;rfl
   |j+2,u=>simp[rP]at u
  ·rw[hlen]
   have e:fj (sig [4,5] (7+post.length)) [4,5] (rP []++List.replicate 3 none) (np S++post)=Ec S (9+post.length)++post++[none,none,RH S]:=by
    have ep:ph ([]:LT)=[]:=rfl;simp only[fj,np,Ec,RH,DS.pop,rP,q,ep,if_true,agt,aeg,afZ,afz,List.set_cons_zero,List.set_cons_succ,aeE,ag7,aa.bb,cm,bW,AV.bb,List.append_assoc,afy,afJ,afK];rfl
   rw[e];rw[q]at k;exact k
 ·rw[decide_eq_true q]at k;have P:=Zq S.heap q hl
  refine ah.fr [4,5] P zk ?_ rfl rfl ?_ ?_
  ·simp only[np,rP,afZ,agt,afz,afr,afs,aeE,aa.bb,cm,bW,AV.bb,eI];rfl
  ·intro j ob u
   match j,u with
   |0,u=>cases u;rfl
   |1,u=>cases u;exact aR _ _
   |j+2,u=>simp[rP]at u
  ·rw[hlen]
   have e:fj (sig [4,5] (7+post.length)) [4,5] [some ⟨162,2,false,[[.vec 4 (ph S.heap).length,.v (.bool true)]]⟩,none,none,none,some ⟨115,2,true,(ph S.heap).map bf⟩] (np S++post)=Ec S (9+post.length)++post++[none,none,RH S]:=by
    have A:sig [4,5] (7+post.length) 4=9+post.length:=by simp[sig];omega
    simp only[fj,np,Ec,RH,if_neg q,afZ,agt,afz,List.set_cons_zero,List.set_cons_succ,aeE,ag7,aa.bb,cm,bW,AV.bb,eI,A,List.append_assoc,afy];rfl
   rw[e];exact k
theorem Tl{st:Nat->ByteArray->Option Nat}{E:IR}(q:∀e∈E,0<=e.time∧e.time<=1099511627776)(root:ByteArray):qW (OT st E root):=Gp (λx h=>by cases h) ⟨zs,Int.le_refl _⟩ q
theorem M7(A:o8)(E:IR)(G:List (ByteArray×IR))(root:ByteArray)(hG:∀v,(qQ G v).getD []=kX E v)(hE:∀e∈E,0<=e.time∧e.time<=1099511627776)(hl:E.length<=31)(n:Nat)(hn:n<=32)(hst:∀s l t,gY A s l=some t->t<n) :
  uw prog 52 [.vp [.vp (c6 A),.mp (gk G)],.vp [.v (.string root)]] [] ((zY (gY A) n E root).map LZ):=by
 have ST:=λa time S=>K0 A E G a time S (hG a.1);have hol:=λv=>xh E v;have NW:=Zj;simp only[rP]at NW
 (refine uw.enter func52 rfl zo zo rfl (λl=>?_);simp only[ntmps52,results52,ae0,aeg,Nat.reduceAdd,Nat.reduceSub,afJ,afK,afz,afy])
 (refine ag ?_;intro K hK K hK)
 refine ah.fr [] NW List.nodup_nil rfl rfl rfl (λk ob h=>by simp at h) ?_
 (revert K;revert K;refine ag ?_;intro K hK K hK)
 have e0:([some ⟨108,0,false,[]⟩,some ⟨108,1,false,[[.vec 0 0]]⟩,some ⟨79,2,true,[]⟩,some ⟨109,1,false,[[.vec 2 0]]⟩,some ⟨162,2,false,[[.vec 5 0,.v (.bool true)]]⟩,some ⟨115,2,true,[]⟩,some ⟨110,1,false,[[.ptr 4 0 2 0 0]]⟩]:AC)=np ⟨[],[],[]⟩++[]:=rfl;have hS0:pk (gY A) E (root,0) Ay ⟨[],[],[]⟩=OT (gY A) E root:=rfl;refine ah.cN (S:=⟨[],[],[]⟩) (a:=(root,0)) (time:=1099511627776) (post:=[]) hG ahn ahn zd hE ?_;have hb:∀e∈E,e.time<=Ay:=λe he=>(hE e he).2;obtain⟨hDL,hRP⟩:=J9 (n:=n) hst hb root;have hT0:=Tl (st:=gY A) hE root;have hcand:∀e∈E,∀s t,gY A s e.label=some t->(e.to,t)∈jz n E:=j7 hst
 have hcl:(jz n E).length<=992:=by rw[qs];exact ag8 hl hn
 have hF:YR (gY A) n E root<=900000:=by
  have h1:(OT (gY A) E root).heap.length<=0+(kX E root).length:=Ru;have h2:(jz n E).length*(E.length+1)<=992*32:=ag8 hcl zd;have h3:=hol root;unfold YR;omega
 rw[zY];rw[show pk (gY A) E (root,0) 1099511627776 ⟨[],[],[]⟩=OT (gY A) E root from rfl];generalize YR (gY A) n E root=F at *;generalize OT (gY A) E root=S0 at *;simp only[np,afz,afy]
 (revert K;revert K;refine ag ?_;intro K hK K hK)
 have hF0:=hDL.fuel;refine ah.WU (S:=S0) (post:=[fS []]) zd ?_;simp only[Ec,afz,afy,ae0,aeg,Nat.reduceAdd,bf]
 (revert K;revert K;refine ag ?_)
 refine uD (ι:=DS×L1×Nat×Bool) 8 (λx=>[(8,.vec 7 0),(9,.ptr (VI x.2.2.2) 0 2 0 0),(10,.v (.bool (decide (x.1.heap≠[]))))]) (λx=>TH x.1 x.2.1 x.2.2.2) (λx=> .run l ((jA (gY A) E x.2.2.1 x.1 (x.2.1.map Prod.fst)).map LZ)) (λx=>x.2.2.1)
  (λx=>DL (gY A) E root (jz n E) x.2.2.1 x.1 x.2.1∧qW x.1∧x.2.2.1<=F) (S0,[],F,true) ⟨hDL,hT0,Nat.le_refl _⟩ ?_ ?_
 ·simp only[TH,Ec,VI,if_true,fS,Sa,bf,afz,afy];refine ab ar (bF ?_) ar
  all_goals(by_cases q:S0.heap=[]<;>simp[q,RH,aR])
 ·rintro⟨S,done,f,pre⟩ ⟨hD,hT,hf⟩ K hK;simp only at hD hT hf⊢
  by_cases U:S.heap=[]
  ·have H:decide (S.heap≠[])=false:=by simp[U]
   rw[xZ f _ U,H]
   cases pre
   ·simp only[TH,Ec,VI,if_false,afq,fS,Sa,bf,afz,afy,agt]
    (revert K;refine ag ?_)
    exact .inl trivial
   ·simp only[TH,Ec,VI,if_true,fS,Sa,bf,afz,afy,agt]
    (revert K;refine ag ?_)
    exact .inl trivial
  ·rw[decide_eq_true U]
   have hq:=hD.next hcand U
   obtain⟨i,nd,f',rfl,h1,h2,h3,h4⟩:=hq;have eK:∀f(l:L1),cm f (cg cJ l)=cg cJ l:=λf l=>bj _ _ (ec _ _);have eI:∀f l,cm f (List.map bf l)=List.map bf l:=λf l=>bj _ _ (aR _ _);have eNn:∀f l,cm f (List.map cJ l)=List.map cJ l:=λf l=>bj _ _ (kz _ _);have eA:∀f,bW f (c6 A)=c6 A:=λf=>fI _ _ (gm _ _)
   refine Or.inr (xN [0,1,2,3,4,if pre then 10 else 11,6,7,if pre then 11 else 8] (bN 61 [(0,.v (.func (.yield l) #[] #[])),(1,.vp [.vp (c6 A),.mp (gk G)]),(2,.vp [.v (.string root)]),(4,.ptr 1 0 1 0 0),(5,.ptr 3 0 1 0 0),(6,.ptr 6 0 1 0 0),(7,.fn 54 [] [.vp [.vp (c6 A),.mp (gk G)],.ptr 1 0 1 0 0,.ptr 6 0 1 0 0,.ptr 3 0 1 0 0]),(8,.vec 7 0),(9,.ptr 8 0 2 0 0),(10,.v (.bool true))])
    (np S.pop++[fS done,Sa S]) ?_ ?_ ?_ ?_ zo ?_)
   ·cases pre<;>decide
   ·have e1:(bf (aX S.heap 0)).length=2:=rfl;cases pre<;>simp only[TH,Ec,np,RH,if_neg U,if_true,if_false,afq,fS,Sa,bf,afz,afy,afZ,agt,afr,afs,aeE,aa.bb,cm,bW,AV.bb,eK,eI,eNn]<;>rfl
   ·intro k ob hk;have hm:=aeG hk;simp only[np,fS,Sa,afz,afy,afO,aep,af1,or_false]at hm
    rcases hm with rfl|rfl|rfl|rfl|rfl|rfl|rfl|rfl|rfl
    ·exact ec _ _
    ·rfl
    ·exact kz _ _
    ·rfl
    ·rfl
    ·exact aR _ _
    ·rfl
    ·exact ec _ _
    ·rfl
   ·cases pre
    ·simp only[TH,Ec,if_false,afq,afz,afy,ae0,aeg];simp only[go_sem,pA,l4,cO,bN,VI,List.foldl,sig,bW,AV.bb,true_or,or_true,eA]
    ·simp only[TH,Ec,if_true,afz,afy,ae0,aeg];simp only[go_sem,pA,l4,cO,bN,VI,List.foldl,sig,bW,AV.bb,true_or,or_true,eA]
   have k1:S.pop.nodes[i]?=some nd:=h2;have hfl:=hD.fuel;have hnl:=hD.len;have hpl:=ze U
   have hdl:done.length<=(jz n E).length:=by
    have:=Ky hD.dnd hD.sdn
    simpa using this
   have hnl2:(done.length+1)*E.length<=993*31:=ag8 zd hl;have hTm:=Uv hT U;have hkey:=hT _ ((jR U).2 (.inl rfl))
   have hTh:S.pop.heap.length<=f'+1:=by show(ph S.heap).length<=_;omega
   have hTn:S.pop.nodes.length=S.nodes.length:=rfl;have hRn:∀(H:nd∉done.map Prod.fst),jA (gY A) E (f'+1) S (done.map Prod.fst)=(nd, -(aX S.heap 0).1)::jA (gY A) E f' (pk (gY A) E nd (-(aX S.heap 0).1) S.pop) (done.map Prod.fst++[nd]):=λH=>AE U h1 h2 H;have hRo:∀(H:nd∈done.map Prod.fst),jA (gY A) E (f'+1) S (done.map Prod.fst)=jA (gY A) E f' S.pop (done.map Prod.fst):=λH=>AF U h1 h2 H;simp only[Sa,bf,h1];generalize(aX S.heap 0).1=key at *;generalize jA (gY A) E (f'+1) S (done.map Prod.fst)=Y at *;generalize S.pop=T at *
   have k2:(T.nodes.map cJ).getD i []=[.v (.string nd.1),.v (.int .i64 (nd.2:Nat))]:=by
    have hi:=(aek.1 k1);obtain⟨hi,rfl⟩:=hi;rw[getD_map cJ T.nodes i [] hi];rfl
   have k3:(T.nodes.map cJ).length=T.nodes.length:=zk
   have k4:i<T.nodes.length:=(aek.1 k1).1
   have tt:lW prog 79=some [.s,.i]:=zo
   have g1:=mR vX nd (dm done);have g3:=vX nd nd;rw[decide_eq_true rfl]at g3;rw[OU]at g1;simp only[np,fS,afz,afy];simp only[bN,afD,afE,afJ,afK,go_sem]
   by_cases H:nd∈done.map Prod.fst
   ·rw[if_pos H]at g1;simp only[cJ,aeE]at g1 g3
    have d1:decide ((0:Int)<1)=true:=zs
    (revert K;refine jd 14 (nU k2 k3 g1 g3 tt d1) ?_;intro K hK K hK K hK)
    ((iterate 3 revert K);refine dG 8 ?_;intro K hK)
    refine me [0,1,2,3,4,5,6,7,10] (bN 61 [(0,.v (.func (.yield l) #[] #[])),(1,.vp [.vp (c6 A),.mp (gk G)]),(2,.vp [.v (.string root)]),(4,.ptr 1 0 1 0 0),(5,.ptr 3 0 1 0 0),(6,.ptr 6 0 1 0 0),(7,.fn 54 [] [.vp [.vp (c6 A),.mp (gk G)],.ptr 1 0 1 0 0,.ptr 6 0 1 0 0,.ptr 3 0 1 0 0]),(8,.vec 7 0),(9,.ptr 8 0 2 0 0)])
     (np T++[fS (done),some ⟨115,2,false,[[.v (.int .i64 key),.v (.int .i64 (i:Nat))]]⟩]) zs ?_ ?_ ?_ zo ?_
    ·simp only[np,fS,afz,afy,afZ,agt,afr,afs,aeE,aa.bb,cm,bW,AV.bb,eK,eI,eNn];rfl
    ·intro k ob hk;have hm:=aeG hk;simp only[np,fS,afz,afy,afO,aep,af1,or_false]at hm
     rcases hm with rfl|rfl|rfl|rfl|rfl|rfl|rfl|rfl|rfl
     ·exact ec _ _
     ·rfl
     ·exact kz _ _
     ·rfl
     ·rfl
     ·exact aR _ _
     ·rfl
     ·exact ec _ _
     ·rfl
    ·simp only[ae0,aeg];simp only[go_sem,pA,bN,List.foldl,sig,bW,AV.bb,true_or,or_true,eA]
    simp only[np,fS,afz,afy];simp only[bN,afD,afE,afJ,afK,go_sem]
    (revert K;refine ag ?_;intro K hK K hK)
    refine ah.WU (S:=T) (post:=[fS (done),some ⟨115,2,false,[[.v (.int .i64 key),.v (.int .i64 (i:Nat))]]⟩]) zd ?_;simp only[Ec,afz,afy,ae0,aeg,Nat.reduceAdd,bf]
    (revert K;revert K;refine ag ?_)
    rw[hRo H];refine aw.mk (T,done,f',false) ⟨h3 H,hTm,(show f'<=F by omega)⟩ (Nat.lt_succ_self f') ?_;simp only[TH,Ec,VI,if_false,afq,fS,Sa,bf,afz,afy];refine ab ar (bF ?_) ar
    all_goals(by_cases q:T.heap=[]<;>simp[q,RH,aR])
   ·rw[if_neg H]at g1;simp only[cJ,ag7]at g1 g3
    have d1:decide ((0:Int)<0)=false:=zs
    (revert K;refine jd 11 (nU k2 k3 g1 g3 tt d1) ?_;iterate 4 intro K hK)
    refine Or.inr ?_;intro fr m D nu a w hZr hn0 hm hs hmx R hO hR;have W:=hs.drew;have hmv:=W.ev (.tmp 8);have hpv:=W.ev (.tmp 11);simp only[AS.ev,List.getD_cons_succ,List.getD_cons_zero]at hmv hpv
    have V:a.tmps.size=61:=by have:=W.tm.len;simpa using this.symm
    obtain⟨kx,hkr,hkx⟩:=qz (P:=prog) (T:=79) W.ro hpv (r:= .agg [.v (.string nd.1),.v (.int .i64 (nd.2:Nat))]) rfl (by refine⟨⟨rfl,rfl⟩,?_⟩;show _<=2;exact Nat.le_of_eq zo)
    have hlk:mA prog 3 [.s,.i] (cg cJ (dm done)) [.v (.string nd.1),.v (.int .i64 (nd.2:Nat))] false=some (.v (.int .i64 0)):=by
     rw[mA,if_pos g3,g1];rfl
    have hst2:=uf vX nd 1 (dm done);obtain⟨w1,w2,st,r1,r2,r3,r4,hmo,hro2⟩:=Y6 (P:=prog) (T:=107) (kt:=79) (et:=3) (zx:= .int .i64 0) W.ro hmv hkx zo tt rfl rfl rfl g3 hlk zo hst2;refine uk hmx zo hO (SJ za (λj=>match j with|0=>a.eval (.tmp 8)|1=>kx|2=> .int .i64 0|3=> .int .i64 1|4=> .tuple #[.int .i64 0,st]|5=>st|_=>Go.undef) (λd=>if d 6 then w2 else if d 4 then w1 else w.drew) rfl ?_)
    have W46:∀{d:Nat->Bool},d 6=false->d 4=false->(if d 6=true then w2 else if d 4=true then w1 else w.drew)=w.drew:=λh6 h4=>by rw[h6,h4];rfl
    have W6:∀{d:Nat->Bool},d 6=false->d 4=true->(if d 6=true then w2 else if d 4=true then w1 else w.drew)=w1:=λh6 h4=>by rw[h6,h4];rfl
    have i6:∀(d:Nat->Bool)(k:Nat),k≠6->nW d k 6=d 6:=λd k h=>if_neg (Ne.symm h);have i4:∀(d:Nat->Bool)(k:Nat),k≠4->nW d k 4=d 4:=λd k h=>if_neg (Ne.symm h)
    refine⟨λx d O H u=>⟨rfl,.inl ?_⟩,λx d O H u=>⟨rfl,.inl ?_⟩,λx d O H u=>⟨rfl,.inl ?_⟩,λx d O H u=>⟨rfl,.inl ?_⟩,λx d O H u=>⟨rfl,.inl ?_⟩,λx d O H u=>⟨rfl,.inl ?_⟩,λx d O H u=>⟨rfl,.inr ⟨?_,rfl⟩⟩,λx d hall=>?_⟩
    ·simp only[i6 d 0 zs,i4 d 0 zs];simp only[execOp,Sem.run_pure]
    ·have hx0:=u
     have h4:d 4=false:=by
      cases h:d 4
      ·rfl
      ·rw[O 4 1 zs h zo]at H;cases H
     have h6:d 6=false:=by
      cases h:d 6
      ·rfl
      ·rw[O 6 1 zs h zo]at H;cases H
     simp only[i6 d 1 zs,i4 d 1 zs];rw[W46 h6 h4];simp only[execOp,jm (show(41:Nat)≠11 by decide)];simp[hkr]
     trace_state
    ·have x0:=(u 0 zs zo).1;have x1:=(u 1 zs zo).1
     have h6:d 6=false:=by
      cases h:d 6
      ·rfl
      ·rw[O 6 2 zs h zo]at H;cases H
     simp only[i6 d 2 zs,i4 d 2 zs]
     have e1:((a.put (some 41) (x 0)).put (some 42) (x 1)).eval (.tmp 41)=a.eval (.tmp 8):=by rw[jm zs,jn (by rw[V];decide)];exact x0
     have e2:((a.put (some 41) (x 0)).put (some 42) (x 1)).eval (.tmp 42)=kx:=by rw[jn (by rw[dv,V];decide)];exact x1
     simp only[execOp,e1,e2]
     cases h4:d 4
     ·simp[h6,r1]
     ·simp[h6,r3]
    ·have x2:=(u 2 zs zo).1;simp only[i6 d 3 zs,i4 d 3 zs]
     have e1:(((a.put (some 41) (x 0)).put (some 42) (x 1)).put (some 43) (x 2)).eval (.tmp 43)=.int .i64 0:=by rw[jn (by rw[dv,dv,V];decide)];exact x2
     simp only[execOp,e1]
     rfl
    ·have x0:=(u 0 zs zo).1;have x1:=(u 1 zs zo).1
     have h6:d 6=false:=by
      cases h:d 6
      ·rfl
      ·rw[O 6 4 zs h zo]at H;cases H
     have e1:((((a.put (some 41) (x 0)).put (some 42) (x 1)).put (some 43) (x 2)).put (some 44) (x 3)).eval (.tmp 41)=a.eval (.tmp 8):=by rw[jm zs,jm zs,jm zs,jn (by rw[V];decide)];exact x0
     have e2:((((a.put (some 41) (x 0)).put (some 42) (x 1)).put (some 43) (x 2)).put (some 44) (x 3)).eval (.tmp 42)=kx:=by rw[jm zs,jm zs,jn (by rw[dv,V];decide)];exact x1
     simp only[execOp,e1,e2,i6 d 4 zs];simp[h6,H,nW,r2]
    ·have x4:=(u 4 zs zo).1;simp only[i6 d 5 zs,i4 d 5 zs]
     have e1:(((((a.put (some 41) (x 0)).put (some 42) (x 1)).put (some 43) (x 2)).put (some 44) (x 3)).put (some 45) (x 4)).eval (.tmp 45)=.tuple #[.int .i64 0,st]:=by rw[jn (by rw[dv,dv,dv,dv,V];decide)];exact x4
     simp only[execOp,e1]
     rfl
    ·have x0:=(u 0 zs zo).1;have x3:=(u 3 zs zo).1;have x5:=(u 5 zs zo).1;have h4:=(u 4 zs zo).2
     have e1:((((((a.put (some 41) (x 0)).put (some 42) (x 1)).put (some 43) (x 2)).put (some 44) (x 3)).put (some 45) (x 4)).put (some 46) (x 5)).eval (.tmp 41)=a.eval (.tmp 8):=by rw[jm zs,jm zs,jm zs,jm zs,jm zs,jn (by rw[V];decide)];exact x0
     have e2:((((((a.put (some 41) (x 0)).put (some 42) (x 1)).put (some 43) (x 2)).put (some 44) (x 3)).put (some 45) (x 4)).put (some 46) (x 5)).eval (.tmp 46)=st:=by rw[jn (by rw[dv,dv,dv,dv,dv,V];decide)];exact x5
     have e3:((((((a.put (some 41) (x 0)).put (some 42) (x 1)).put (some 43) (x 2)).put (some 44) (x 3)).put (some 45) (x 4)).put (some 46) (x 5)).eval (.tmp 44)=.int .i64 1:=by rw[jm zs,jm zs,jn (by rw[dv,dv,dv,V];decide)];exact x3
     simp only[execOp,e1,e2,e3];simp[H,h4,nW,r4]
    ·have hx:∀i,i<7->x i=_:=λi hi=>(hall i hi).1;have x0:x 0=a.eval (.tmp 8):=hx 0 zs;have x1:x 1=kx:=hx 1 zs;have x2:x 2=.int .i64 0:=hx 2 zs;have x3:x 3=.int .i64 1:=hx 3 zs;have q1:=W.put (.refl _ _ _) W.ro hmv (some 41);have q2:=q1.put (.refl _ _ _) q1.ro hkx (some 42);have q3:=q2.put (.refl _ _ _) q2.ro (.v (.int .i64 0)) (some 43);have q4:=q3.put (.refl _ _ _) q3.ro (.v (.int .i64 1)) (some 44);have q5:=q4.put (.refl _ _ _) q4.ro (.undef (x 4)) (some 45);have q6:=q5.put (.refl _ _ _) q5.ro (.undef (x 5)) (some 46);have q7:=q6.put hmo hro2 (.undef (x 6)) none;rw[<-x0, <- x1, <- x2, <- x3]at q7
     have hW:(if d 6=true then w2 else if d 4=true then w1 else w.drew)=w2:=by rw[(hall 6 zs).2];rfl
     show R .normal (((((((a.put (some 41) (x 0)).put (some 42) (x 1)).put (some 43) (x 2)).put (some 44) (x 3)).put (some 45) (x 4)).put (some 46) (x 5)).put none (x 6)) (if d 6=true then w2 else if d 4=true then w1 else w.drew);rw[hW]
     refine hR .normal D fr.Z _ _ _ nu ?_ q7 ?_
     ·exact m.own hm hs.ro (cf.trans (aH (dE w)) hmo) hro2
     clear q1 q2 q3 q4 q5 q6 q7 hR;rw[OW (τ:= -key) H];simp only[AS.put];have hH:=h4 H
     have hwn:IntKind.i64.wrap (0-key) = -key:=by rw[bS zd zd];omega
     rw[hRn H,afZ];simp only[LZ,cJ]
     ((iterate 4 revert K);refine jd 13 hwn ?_;iterate 5 intro K hK)
     refine oV.mk ?_ ?_
     ·((iterate 5 revert K);refine ak hwn ?_;intro K hK K hK K hK)
      refine ah.cN (S:=T) (a:=nd) (time:= -key) (post:=[fS (done++[(nd, -key)]),some ⟨115,2,false,[[.v (.int .i64 key),.v (.int .i64 (i:Nat))]]⟩,some ⟨79,2,false,[[.v (.string nd.1),.v (.int .i64 (nd.2:Nat))]]⟩]) hG zd (by rw[hTn];omega) zd hE ?_;have hT2:=Gp (st:=gY A) (E:=E) (a:=nd) (time:= -key) hTm zd hE;have hH1:=hH.1;have hH2:=hH1.fuel
      have hmap:(done++[(nd, -key)]).map Prod.fst=done.map Prod.fst++[nd]:=zk
      clear hH h4;generalize pk (gY A) E nd (-key) T=T2 at *;simp only[np,fS,afz,afy]
      ((iterate 3 revert K);refine dG 8 ?_;intro K hK)
      refine me [0,1,2,3,4,5,6,7,10] (bN 61 [(0,.v (.func (.yield l) #[] #[])),(1,.vp [.vp (c6 A),.mp (gk G)]),(2,.vp [.v (.string root)]),(4,.ptr 1 0 1 0 0),(5,.ptr 3 0 1 0 0),(6,.ptr 6 0 1 0 0),(7,.fn 54 [] [.vp [.vp (c6 A),.mp (gk G)],.ptr 1 0 1 0 0,.ptr 6 0 1 0 0,.ptr 3 0 1 0 0]),(8,.vec 7 0),(9,.ptr 8 0 2 0 0)])
       (np T2++[fS (done++[(nd, -key)]),some ⟨115,2,false,[[.v (.int .i64 key),.v (.int .i64 (i:Nat))]]⟩]) zs ?_ ?_ ?_ zo ?_
      ·simp only[np,fS,afz,afy,afZ,agt,afr,afs,aeE,aa.bb,cm,bW,AV.bb,eK,eI,eNn];rfl
      ·intro k ob hk;have hm:=aeG hk;simp only[np,fS,afz,afy,afO,aep,af1,or_false]at hm
       rcases hm with rfl|rfl|rfl|rfl|rfl|rfl|rfl|rfl|rfl
       ·exact ec _ _
       ·rfl
       ·exact kz _ _
       ·rfl
       ·rfl
       ·exact aR _ _
       ·rfl
       ·exact ec _ _
       ·rfl
      ·simp only[ae0,aeg];simp only[go_sem,pA,bN,List.foldl,sig,bW,AV.bb,true_or,or_true,eA]
      simp only[np,fS,afz,afy];simp only[bN,afD,afE,afJ,afK,go_sem]
      (revert K;refine ag ?_;intro K hK K hK)
      refine ah.WU (S:=T2) (post:=[fS (done++[(nd, -key)]),some ⟨115,2,false,[[.v (.int .i64 key),.v (.int .i64 (i:Nat))]]⟩]) zd ?_;simp only[Ec,afz,afy,ae0,aeg,Nat.reduceAdd,bf]
      (revert K;revert K;refine ag ?_)
      refine aw.mk (T2,done++[(nd, -key)],f',false) ⟨hH1,hT2,(show f'<=F by omega)⟩ (Nat.lt_succ_self f') ?_;simp only[TH,Ec,VI,if_false,afq,fS,Sa,bf,afz,afy,hmap];refine ab ar (bF ?_) ar
      all_goals(by_cases q:T2.heap=[]<;>simp[q,RH,aR])
     ·((iterate 5 revert K);refine ag ?_)
      exact .inr trivial
section
theorem M8(A:o8)(G:List (ByteArray×IR))(root:ByteArray):aj prog 30 [.agg [.vp (c6 A),.mp (gk G)],.v (.string root)] (.fn 52 [] [.vp [.vp (c6 A),.mp (gk G)],.vp [.v (.string root)]]):=by
 have u:aQ 0 [.agg [.vp (c6 A),.mp (gk G)],.v (.string root)]=true:=by simp only[aQ,AV.wf,gm,kA,afe]
 have q:(AV.fn 52 [] [.vp [.vp (c6 A),.mp (gk G)],.vp [.v (.string root)]]).wf 0=true:=by simp only[aQ,AV.wf,gm,kA,afe]
 (refine aj.iy func30 rfl zo zo rfl u q ?_;simp only[ntmps30,results30,ae0,aeg,Nat.reduceAdd,Nat.reduceSub,afJ,afK,List.cons_append,List.nil_append])
 refine ag ?_;refine bC.of 6 rfl ?_;simp only[aa.hl,AV.wf,aQ,gm,kA,afe,agp];simp
theorem Ul(x:Ex)(e:Int)(q:e≠0)(E:IR)(C:aj prog 49 [.agg (aP x)] (.ck [.v (.pointer none),.v (.int .i64 e)])):aj prog 27 [.agg (aP x),.aA 5 (E.map aU) E.length] (.ck [.agg [.v (.pointer none),.v (.map none)],.v (.int .i64 e)]):=by
 have z0:(e !=0)=true:=by simp[q]
 rw[aB]at C⊢;refine gE func27 ntmps27 results27 ?_
 (refine ag ?_;intro K hK K hK)
 (revert K;revert K;refine dA C z0 ?_)
 (refine iE.of 40 rfl ?_;simp only[go_sem])
section
variable {st:Nat->ByteArray->Option Nat} {tk:Nat->Bool} {em:Bool} {n:Nat}
def XN(tk:Nat->Bool)(root:ByteArray)(p:Nd×Int):Option (K2×Int):=if tk p.1.2 then some ((root,p.1.1),p.2)else none
def Ad(st:Nat->ByteArray->Option Nat)(tk:Nat->Bool)(em:Bool)(n:Nat)(E:IR)(i:Nat):PL:=fH (((aJ E).take i).flatMap (v8 st tk em n E)) []
def I8(st:Nat->ByteArray->Option Nat)(tk:Nat->Bool)(n:Nat)(E:IR)(root:ByteArray)(b:PL)(k:Nat):PL:=fH (((zY st n E root).take k).filterMap (XN tk root)) b
theorem MZ{E:IR}{i:Nat}(h:i<(aJ E).length):Ad st tk em n E (i+1)=I8 st tk n E (aJ E)[i].1.1 (if em then gd (Ad st tk em n E i) ((aJ E)[i].1.1,(aJ E)[i].1.1) (aJ E)[i].2 else Ad st tk em n E i) (zY st n E (aJ E)[i].1.1).length:=by
 rw[Ad,agD h,List.flatMap_append,qD,I8,agE];simp only[List.flatMap_cons,List.flatMap_nil,agn,v8,fB];rw[qD];cases em<;>rfl
theorem MY{E:IR}{root:ByteArray}{b:PL}{k:Nat}(h:k<(zY st n E root).length):I8 st tk n E root b (k+1)=if tk (zY st n E root)[k].1.2 then gd (I8 st tk n E root b k) (root,(zY st n E root)[k].1.1) (zY st n E root)[k].2 else I8 st tk n E root b k:=by
 rw[I8,agD h,List.filterMap_append,qD];simp only[List.filterMap_cons,List.filterMap_nil,XN];cases tk (zY st n E root)[k].1.2<;>rfl
theorem Bs{K:Type} [DecidableEq K]:∀(l b:List (K×Int)),(fH l b).length<=b.length+l.length
 | [],b=>aed _
 |p::l,b=>by
  have u:=Bs l (gd b p.1 p.2);have q:=xR b p.1 p.2;show(fH l (gd b p.1 p.2)).length<=_;simp only[ae0];omega
theorem Tj{E:IR}(q:∀s l t,st s l=some t->t<n)(W:∀e∈E,e.time<=Ay)(root:ByteArray):(zY st n E root).length<=E.length*n:=by
 have F:=Cu q W root
 have h:=Ky F.nd (m:=jz n E) (λx O=>by
  obtain⟨p,V,rfl⟩:=agR.1 O;have U:=F.ju p V
  have key:∀{τ v s},D8 st E τ root v s->(v,s)∈jz n E:=λh=>by
   cases h with
   |one e s H A Y u=>exact j7 q e H 0 _ u
   |more e s t H A Y u=>exact j7 q e A s _ u
  exact key U)
 rw[qs,List.length_map]at h;exact h
theorem F0{E:IR}(q:∀s l t,st s l=some t->t<n)(u:∀e∈E,e.time<=Ay)(hl:E.length<=31)(hn:n<=32):∀i,(Ad st tk em n E i).length<=100000:=λi=>by
 have V:=Bs (((aJ E).take i).flatMap (v8 st tk em n E)) []
 have U:∀l:PL,(l.flatMap (v8 st tk em n E)).length<=l.length*993:=by
  intro l
  induction l with
  |nil=>simp
  |cons a l ih=>
   have O:=Tj q u a.1.1
   have H:(v8 st tk em n E a).length<=1+(zY st n E a.1.1).length:=by
    rw[v8,fB,List.length_append]
    have:=List.length_filterMap_le (λp:Nd×Int=>if tk p.1.2 then some ((a.1.1,p.1.1),p.2)else none) (zY st n E a.1.1)
    cases em<;>simp<;>omega
   have A:E.length*n<=31*32:=Nat.mul_le_mul hl hn;rw[List.flatMap_cons,List.length_append,ae0];omega
 have O:=U ((aJ E).take i)
 have H:(aJ E).length<=62:=by
  have:=l5 E E.length (aed _)
  rw[agE]at this;rw[aJ,(cL _).length_eq];omega
 have A:((aJ E).take i).length<=62:=by rw[List.length_take];omega
 simp only[aeg]at V;rw[Ad];omega
end
noncomputable def tM(x:Ex)(E:IR):AV:=if iO x E=0 then .ck [.aA 3 ((gU x E).map aK) (gU x E).length,.v (.int .i64 0)]else .ck [.v (.slice none 0 0),.v (.int .i64 (iO x E))]
theorem Bk(x:Ex)(E:IR)(hl:E.length<=31)(H:∀A,gb x (ct x)=.inl A->AOk A):(gU x E).length<=100000:=by
 unfold gU
 cases u:gb x (ct x)with
 |inr e=>simp
 |inl A=>
  simp only
  split
  ·rename_i q;have ok:=H A u
   have:=F0 (tk:=λs=>bM A s) (em:=cH x) (Jq ok) (yd q) hl ok.max (aJ E).length
   rw[Ad,agE]at this;rw[lS,pY,(cL _).length_eq];exact this
  ·simp
theorem Ei(x:Ex)(A:o8)(E:IR)(hx:x.ok)(ok:AOk A)(OV:aj prog 27 [.agg (aP x),.aA 5 (E.map aU) E.length] (.ck [.agg [.vp (c6 A),.mp (gk (CX E))],.v (.int .i64 0)]))(he:e9 E=0)(hl:E.length<=31) :
  bT prog 9 [.agg (aP x),.aA 5 (E.map aU) E.length] [] (.ck [.vec 6 (lS x A E).length,.v (.int .i64 0)]) [none,none,none,none,none,none,some ⟨37,3,true,(lS x A E).map aK⟩]:=by
 have eW:∀n l,bE n (cg bJ l)=true:=λn l=>gp (λ_=>rfl) l;have EM:=wP x hx;have VT:=Dw E zd;have hE:∀e∈E,0<=e.time∧e.time<=1099511627776:=λe h=>AG (uI he e h);have U:=Jq ok;have RS:=λroot=>M7 A E (CX E) root (Pr E) hE hl A.rows.length ok.max U;have RC:=λroot=>M8 A (CX E) root;have TK:=λs:Int=>OZ A ok.ends s;have u:∀n,aQ n (c6 A)=true:=λn=>gm n A;have q:∀n,bE n (gk (CX E))=true:=λn=>kA n _;generalize c6 A=vA at *;generalize gk (CX E)=vG at *;rw[aB]at OV EM⊢;refine gF func9 ntmps9 results9 ?_
 (refine ag ?_;intro K hK K hK)
 (revert K;revert K;refine aM OV ?_;intro K hK K hK K hK)
 ((iterate 3 revert K);refine aM VT ?_;intro K hK)
 have hN:(aJ E).length<=62:=by
  have:=l5 E E.length (aed _)
  rw[agE]at this;rw[aJ,(cL _).length_eq];omega
 let B:=Ad (gY A) (λs=>bM A s) (cH x) A.rows.length E
 let oX:Option aa:=some ⟨25,3,false,[[.v (.int .i64 x.kind),.v (.string x.label),.aA 3 (x.kids.map aP) x.kids.length]]⟩
 let oW:Option aa:=some ⟨66,2,false,[[.vp vA,.mp vG]]⟩
 let oM:PL->Option aa:=λl=>some ⟨70,0,false,cg bJ l⟩
 let oB:Option aa:=some ⟨70,1,false,[[.vec 2 0]]⟩
 refine b7 (ι:=Nat) (λi=>[(2,.ptr 0 0 3 0 0),(6,.ptr 1 0 2 0 0),(8,.ptr 3 0 1 0 0),(24,.aA 3 ((aJ E).map aK) (aJ E).length),(25,.v (.int .i64 ((aJ E).length:Nat))),(26,.v (.int .i64 (i:Nat)))]) (λi=>[oX,oW,oM (B i),oB]) (λi=>(aJ E).length-i) (λi=>i<=(aJ E).length) 0 (Nat.zero_le _) ?_ ?_
 ·simp only[oX,oW,oM,oB];refine ab (bF ?_) (bF ?_) ar
  all_goals first|rfl|exact⟨by rw[u,q];rfl,rfl,rfl⟩
 ·rintro i hi K hK;simp only[bN,afD,afE,afJ,afK,go_sem]
  rcases Nat.lt_or_ge i (aJ E).length with h|h
  ·have d1:decide ((i:Int)<((aJ E).length:Int))=true:=b0;have e1:=getD_map aK (aJ E) i [] h;simp only[aK]at e1
   have eN:((aJ E).map aK).length=(aJ E).length:=zk
   have ws:=ae (k:=i) zd;have hS:B (i+1)=_:=MZ h;generalize(aJ E)[i]=v at *;simp only[oX,oW,oM,oB]
   repeat((fail_if_success (with_reducible refine Rt (i:=8) ?_));first|(with_reducible first|refine bA.up ?_|refineλ(K:AK)hK=>?_|(refine hK _ ?_;clear hK K))|simp only[go_sem,d1,e1,eN]|with_reducible refine wA ?_|clear hK K)
   refine vQ ⟨bN 63 [(2,.ptr 0 0 3 0 0),(6,.ptr 1 0 2 0 0),(8,.ptr 3 0 1 0 0),(10,.ptr 4 0 3 0 0),(24,.aA 3 ((aJ E).map aK) (aJ E).length),(25,.v (.int .i64 ((aJ E).length:Nat))),(26,.v (.int .i64 (i:Nat)))],[oX,oW,oM (if cH x=true then gd (B i) (v.1.1,v.1.1) v.2 else B i),oB,some ⟨37,3,false,[aK v]⟩],.no⟩ zo zo ?_ ?_
   ·cases W:cH x
    ·rw[W]at EM;simp only[oX,oW,oM,oB,afq,if_false]
     ((iterate 3 revert K);refine ag ?_;iterate 5 intro K hK)
     ((iterate 5 revert K);refine aM EM ?_)
     simp only[aK];simp only[bN,afD,afE,afJ,afK,go_sem];refine ab ar (bF ?_) ar
     all_goals first|exact eW _ _|exact⟨by rw[u,q];rfl,eW _ _⟩
    ·rw[W]at EM;simp only[oX,oW,oM,oB,if_true]
     ((iterate 3 revert K);refine ag ?_;iterate 5 intro K hK)
     ((iterate 5 revert K);refine aM EM ?_;iterate 4 intro K hK)
     refine ah.Uz (k:=(v.1.1,v.1.1)) rfl ?_
     ((iterate 4 revert K);refine ag ?_)
     simp only[aK];simp only[bN,afD,afE,afJ,afK,go_sem];refine ab ar (bF ?_) ar
     all_goals first|exact eW _ _|exact⟨by rw[u,q];rfl,eW _ _⟩
   ·generalize(if cH x=true then gd (B i) (v.1.1,v.1.1) v.2 else B i)=b1 at *;simp only[oX,oW,oM,oB,aK];simp only[bN,afD,afE,afJ,afK,go_sem]
    ((iterate 3 revert K);refine ag ?_;iterate 5 intro K hK)
    ((iterate 5 revert K);refine aM (RC v.1.1) ?_;intro K hK K hK K hK)
    refine rF (RS v.1.1) 27 (λk=>[oX,oW,oM (I8 (gY A) (λs=>bM A s) A.rows.length E v.1.1 b1 k),oB,some ⟨37,3,false,[aK v]⟩]) (λk=>k<=(zY (gY A) A.rows.length E v.1.1).length) (Nat.zero_le _) ?_ ?_ ?_ zo zo ?_ ?_ ?_
    ·((iterate 3 revert K);exact s8)
    ·simp only[aQ,AV.wf,u,q,agp]
    ·simp only[oX,oW,oM,oB,aK];refine ab ar (bF ?_) ar
     all_goals first|exact⟨by rw[u,q];rfl,rfl,eW _ _⟩
    ·intro y O;obtain⟨p,_,rfl⟩:=agR.1 O
     rfl
    ·intro k y hk O
     have V:k<(zY (gY A) A.rows.length E v.1.1).length:=by
      have:=(List.getElem?_eq_some_iff.1 O).1
      simpa using this
     have hy2:y=LZ (zY (gY A) A.rows.length E v.1.1)[k]:=by
      rw[List.getElem?_map,List.getElem?_eq_getElem V]at O;exact(Option.some.inj O).symm
     have Y:=MY (tk:=λs=>bM A s) (b:=b1) V;clear O;subst hy2;generalize(zY (gY A) A.rows.length E v.1.1)[k]=p at *;have T:=TK (p.1.2:Nat);simp only[oX,oW,oM,oB,aK,LZ,cJ]
     ((iterate 3 revert K);refine ag ?_;iterate 5 intro K hK)
     refine ah.one T ?_
     cases H:bM A (p.1.2:Nat)
     ·simp only[H,afq,if_false]at Y
      ((iterate 5 revert K);refine ak H ?_)
      rw[Y];refine ab ar (bF ?_) ar
      all_goals first|exact⟨by rw[u,q];rfl,eW _ _⟩
     ·simp only[H,if_true]at Y
      ((iterate 5 revert K);refine ak H ?_;iterate 4 intro K hK)
      refine ah.Uz (k:=(v.1.1,p.1.1)) rfl ?_
      ((iterate 4 revert K);refine ag ?_)
      rw[Y];refine ab ar (bF ?_) ar
      all_goals first|exact⟨by rw[u,q];rfl,eW _ _⟩
    ·intro _
     have eK:((zY (gY A) A.rows.length E v.1.1).map LZ).length=(zY (gY A) A.rows.length E v.1.1).length:=zk
     rw[eK, <- hS];simp only[oX,oW,oM,oB]
     ((iterate 3 revert K);refine ak ws ?_)
     refine aw.mk (i+1) h (show(aJ E).length-(i+1)<(aJ E).length-i by omega) ?_;simp only[oX,oW,oM,oB];simp only[bN,afD,afE,afJ,afK,go_sem];refine ab ar (bF ?_) ar
     all_goals first|exact⟨by rw[u,q];rfl,eW _ _⟩
  ·have e0:i=(aJ E).length:=zd
   have d1:decide (((aJ E).length:Int)<((aJ E).length:Int))=false:=bi;simp only[e0,oX,oW,oM,oB]
   (revert K;revert K;refine jd 16 d1 ?_;intro K hK)
   have eB:B (aJ E).length=fH ((aJ E).flatMap (v8 (gY A) (λs=>bM A s) (cH x) A.rows.length E)) []:=by
    show Ad _ _ _ _ _ _=_;rw[Ad,agE]
   have PR:=KF (B (aJ E).length) (by rw[eB];exact(jo _ [] ae1).1) (by have:=F0 (tk:=λs=>bM A s) (em:=cH x) U (yd he) hl ok.max (aJ E).length;exact Nat.le_trans this zd)
   have eP:cz (B (aJ E).length)=lS x A E:=by rw[eB];rfl
   rw[eP]at PR;refine bn (BO (k:=3) (i:=0) (j:=0) (id:=2) zs rfl zs rfl rfl rfl rfl rfl) zo ?_;simp only[List.set_cons_zero,List.set_cons_succ]
   (revert K;refine ag ?_;intro K hK K hK)
   refine ah.fr [] PR ae1 rfl ?_ ?_ (λk ob h=>by simp at h) ?_
   ·simp only[bW,AV.bb,bj _ _ (eW 0 _)]
   ·simp only[aQ,AV.wf,eW,afe]
   simp only[fj,List.map_cons,List.map_nil,Option.map_some,Option.map_none,aa.bb,bj _ _ (bu 0 _),List.nil_append,agn]
   (revert K;revert K;refine ag ?_)
   exact⟨ej,ej,ej⟩
theorem B6(x:Ex)(E:IR)(H:x.ok)(U:∀e∈E,xv e)(hl:E.length<=31)(Y:∀A,gb x (ct x)=.inl A->AOk A):aj prog 9 [.agg (aP x),.aA 5 (E.map aU) E.length] (tM x E):=by
 have NW:=OX x H;have eW:∀n l,bE n (cg bJ l)=true:=λn l=>gp (λ_=>rfl) l;have EM:=wP x H;have VT:=Dw E zd;unfold IX at NW;unfold tM
 cases u:gb x (ct x)with
 |inr e=>
  rw[u]at NW;have V:=uC u
  have O:iO x E=e:=by rw[iO,u]
  have OV:=Ul x e V E NW
  have z0:(e !=0)=true:=by simp[V]
  rw[O,if_neg V];rw[aB]at OV⊢;refine gE func9 ntmps9 results9 ?_
  (refine ag ?_;intro K hK K hK)
  (revert K;revert K;refine dA OV z0 ?_)
  (refine iE.of 40 rfl ?_;simp only[go_sem])
 |inl A=>
  rw[u]at NW;have ok:=Y A u
  have O:iO x E=e9 E:=by rw[iO,u]
  have OV:=Qq x A E NW U zd;rw[O]
  by_cases q:e9 E=0
  ·have W:gU x E=lS x A E:=by rw[gU,u];simp only[if_pos q]
   rw[if_pos q,W];rw[tJ,if_pos q]at OV
   exact .ofG (Ei x A E H ok OV q hl) (by rw[aB];simp only[aQ,AV.wf,df,bI,agp]) (by simp only[AV.wf,aQ,bu,agp]) (by
    rintro r o ⟨rfl,rfl⟩
    exact bC.ck ⟨bC.sj (ob:=⟨37,3,true,(lS x A E).map aK⟩) rfl rfl zk (bu _ _),bC.v _,trivial⟩)
  ·rw[if_neg q];rw[tJ,if_neg q]at OV
   have z0:(e9 E !=0)=true:=by simp[q]
   rw[aB]at OV⊢;refine gE func9 ntmps9 results9 ?_
   (refine ag ?_;intro K hK K hK)
   (revert K;revert K;refine dA OV z0 ?_)
   (refine iE.of 40 rfl ?_;simp only[go_sem])
open Go.RowKit Go.Shelf
section
open Go.Maps Go.Sort Go.WideElems
def adY(r:bD):List (Lit×DataW Unit):=r.map (λp=>(.string p.1.data.toList,.lit (.int .i64 (p.2:Nat))))
def adi(r s:bD):Bool:=decide (r.length=s.length)&&r.all (λp=>look s p.1==some p.2)
end
structure LOk(A:o8):Prop extends AOk A where
 nd:A.labs.Nodup
 sz:∀l∈A.labs,l.size<=20
 few:A.labs.length<=24
theorem nh:∀{l m:B0},l8 l->l8 m->(∀s,s∈l↔s∈m)->l=m
 | [],[],_,_,_=>rfl
 | [],b::m,_,_,h=>absurd ((h b).2 zk) zk
 |a::l,[],_,_,h=>absurd ((h a).1 zk) zk
 |a::l,b::m,H,A,h=>by
  rw[l8,af6]at H A;have irr:∀x:List UInt8, ¬x<x:=λx=>List.lt_irrefl _
  have O:a=b:=by
   rcases afO.1 ((h a).1 zk)with e|V
   ·exact e
   ·rcases afO.1 ((h b).2 zk)with e|U
    ·exact e.symm
    ·exact absurd (List.lt_trans (H.1 b U) (A.1 a V)) (irr _)
  subst O
  refine congrArg _ (nh H.2 A.2 λs=>⟨λu=>?_,λu=>?_⟩)
  ·rcases afO.1 ((h s).1 (aeX _ u))with e|q
   ·subst e;exact absurd (H.1 _ u) (irr _)
   ·exact q
  ·rcases afO.1 ((h s).2 (aeX _ u))with e|q
   ·subst e;exact absurd (A.1 _ u) (irr _)
   ·exact q
theorem TQ{x:Ex}{l:B0}(h:l8 l)(q:∀s,s∈aI x↔s∈l):ct x=l:=nh (qB x) h λs=>pO.trans (q s)
def ta:ByteArray:=⟨#[97]⟩
def tb:ByteArray:=⟨#[98]⟩
def Vq(s:ByteArray):Ex:= .mk 1 s []
mutual
def sX:Ex->Nat->Nat
 | .mk _ _ l,deep=>if 60<deep then 301 else sL l (deep+1) 1
def sL:IO->Nat->Nat->Nat
 | [],_,n=>n
 |x::xs,d,n=>if n<=300 then sL xs d (n+sX x d)else n
end
mutual
theorem Xc:∀(x:Ex)(d:Nat),d<=61->1<=sX x d∧sX x d<=301+300*(61-d)
 | .mk _ _ l,d,h=>by
  rw[sX]
  split
  ·omega
  ·have:=Q8 l (d+1) 1 zd;omega
theorem Q8:∀(l:IO)(d n:Nat),d<=61->n<=sL l d n∧sL l d n<=max n (601+300*(61-d))
 | [],d,n,h=>by rw[sL];omega
 |x::xs,d,n,h=>by
  rw[sL]
  split
  ·have u:=Xc x d h;have q:=Q8 xs d (n+sX x d) h;omega
  ·omega
end
def grN(a b:Ex):Nat:=if sX a 0<=300 then sX a 0+sX b 0 else sX a 0
def abZ(w:B0)(a b:Ex):Bool:=decide (300<grN a b)||decide (30<w.length)
noncomputable def partAt(p q:B0->Bool)(w:B0)(n:Nat):Bool:=(List.range n).any (λk=>p (w.take k)&&q (w.drop k))
section
variable {a b:Ex} (ha:aD a=true) (hb:aD b=true) (na:(aq a).length<=11) (nb:(aq b).length<=11)
include ha hb na nb
omit hb nb
end
theorem J1{x:Ex}{A:o8}(h:gb x (ct x)=.inl A):aD x=true∧A.labs=ct x∧NS x A∧LOk A:=by
 have q:aD x=true:=by
  cases q:aD x
  ·rw[gb,q]at h;simp at h
  ·rfl
 have L:=LB q (kT x) (Dg q) (λl hl=>pO.2 hl) h
 have e:A.labs=ct x:=by
  rw[gb,if_pos q]at h
  split at h
  ·split at h
   ·cases h
   ·simp only[Sum.inl.injEq]at h;rw[<-h];rfl
  ·cases h
 exact⟨q,e,L,{L.toAOk with nd:=by rw[e];exact kT x,sz:=by rw[e];exact Ks q,few:=by rw[e];exact Df q}⟩
theorem FV{s:ByteArray}(h:s.size<=100):wI s:=by unfold wI;omega
mutual
def mC:Ex->C5
 | .mk k s l=>[.v (.int .i64 k),.v (.string s),if l.isEmpty then .v (.slice none 0 0)else .aA 3 (AI l) l.length]
def AI:IO->List C5
 | []=>[]
 |x::xs=>mC x::AI xs
end
theorem EU:∀l:IO,AI l=l.map mC
 | []=>rfl
 |x::xs=>by rw[AI,EU xs];rfl
theorem Kd(x:Ex):xx (mC x) (aP x):=by
 induction x using Ex.ind with
 |h k s l ih=>
  rw[mC,aB];refine .cons (.refl _) (.cons (.refl _) (.cons ?_ .nil))
  cases l with
  |nil=>exact .nil 3
  |cons y l=>
   have:=Le.rows (z:=3) (f:=mC) (g:=aP) (xs:=y::l) (more:=[]) ih
   rw[agn]at this;rw[EU];exact this
def tx:ByteArray:=⟨#[120]⟩
def tc:ByteArray:=⟨#[99]⟩
def Kg:Ex:= .mk 4 ⟨#[]⟩ [Vq tx]
def auS:o8:=⟨[[(tx,0)]],[true],[tx]⟩
def O0:IR:=[⟨ta,tb,tx,5,[]⟩,⟨tb,tc,tx,3,[]⟩]
def paS:PL:=[((ta,ta),5),((ta,tb),5),((ta,tc),3),((tb,tb),5),((tb,tc),3),((tc,tc),3)]
theorem Ze:ct Kg=[tx]:=TQ (by simp[l8]) (λs=>by rw[show aI Kg=[tx] by kernel_rfl])
theorem YL:gb Kg (ct Kg)=.inl auS:=by rw[Ze];kernel_rfl
theorem Us:iO Kg O0=0:=by rw[iO,YL];kernel_rfl
theorem WR:gU Kg O0=paS:=by
 rw[gU,YL];show(if e9 O0=0 then lS Kg auS O0 else [])=paS;rw[if_pos zo]
 kernel_rfl
theorem tN(x:Ex):∀A,gb x (ct x)=.inl A->AOk A:=λA h=>(J1 h).2.2.1.toAOk
def ND(a b l:ByteArray)(t:Int):C5:=[.v (.string a),.v (.string b),.v (.string l),.v (.int .i64 t),.v (.slice none 0 0)]
theorem Ig(a b l:ByteArray)(t:Int):xx (ND a b l t) (aU ⟨a,b,l,t,[]⟩):= .cons (.refl _) (.cons (.refl _) (.cons (.refl _) (.cons (.refl _) (.cons (.nil 4) .nil))))
theorem Wl:Le (.aA 5 [ND ta tb tx 5,ND tb tc tx 3] 2) (.aA 5 (O0.map aU) O0.length):=by
 refine .aA _ _ _ _ (by simp[O0]) (by simp[O0]) (λi r U q u=>?_) (λi j r U c O q u H A=>?_)
 ·match i,q,u with
  |0,q,u=>cases q;cases u;rfl
  |1,q,u=>cases q;cases u;rfl
  |i+2,q,u=>simp at q
 ·match i,q,u with
  |0,q,u=>cases q;cases u;exact(Ig _ _ _ _).2 j c O H A
  |1,q,u=>cases q;cases u;exact(Ig _ _ _ _).2 j c O H A
  |i+2,q,u=>simp at q
theorem Aw:aj prog 7 [] (.v (.bool true)):=by
 have oS:Kg.ok:=by simp only[Kg,Vq,Ex.ok,q8,and_true];exact⟨FV zs,FV zs⟩
 have oE:∀e∈O0,xv e:=λe q=>by
  simp only[O0,afO,af1,or_false]at q
  rcases q with rfl|rfl<;>exact⟨by show _<=maxLen;unfold maxLen;decide,by show _<=maxLen;unfold maxLen;decide,by show _<=maxLen;unfold maxLen;decide,λp U=>(by cases U),zk⟩
 have PS:=(B6 Kg O0 oS oE zs (tN Kg)).le (args':=[.agg (mC Kg),.aA 5 [ND ta tb tx 5,ND tb tc tx 3] 2]) rfl (.cons (Kd Kg).agg (.cons Wl .nil));rw[tM,Us,if_pos rfl,WR]at PS;have O:=u9 tx;have A:=nq ta tb tx 5;have u:=nq tb tc tx 3;have H:=yX 4 [[.v (.int .i64 1),.v (.string tx),.v (.slice none 0 0)]] 1 rfl;have SM:=qb paS zs;simp only[Kg,Vq,mC,AI,List.isEmpty_nil,List.isEmpty_cons,ae0,aeg,Nat.reduceAdd,if_true,afq,if_false,ND,ta,tb,tc,tx,paS,aK,List.map_cons,List.map_nil]at PS O A u H SM;refine gE func7 ntmps7 results7 ?_
 (refine ag ?_;intro K hK K hK)
 (revert K;revert K;refine aM O ?_;intro K hK K hK)
 refine ah.Wq H rfl (by simp only[go_sem,Nat.reduceLT,Nat.reduceLeDiff,Nat.reduceEqDiff,agq,agr,and_self]) ?_
 (revert K;revert K;refine ag ?_;intro K hK K hK)
 (revert K;revert K;refine aM A ?_;intro K hK K hK)
 (revert K;revert K;refine aM u ?_;intro K hK K hK)
 refine ah.Wq PS rfl (by simp only[go_sem,Nat.reduceLT,Nat.reduceLeDiff,Nat.reduceEqDiff,agq,agr,and_self]) ?_
 (revert K;revert K;refine ag ?_;intro K hK K hK)
 refine ah.Wq SM rfl (by simp only[go_sem,Nat.reduceLT,Nat.reduceLeDiff,Nat.reduceEqDiff,agq,agr,and_self]) ?_
 (revert K;revert K;exact s8)
open Go.ChangeShapes Go.WideShapes Go.ChangeAt Go.RowKit
section
variable {H:Type} {enc:TypeId×Value->H} {w:World}
instance:Inhabited xA:=⟨⟨⟨#[]⟩,⟨0,0,⟨#[]⟩⟩⟩⟩
instance:Inhabited bH:=⟨⟨⟨#[]⟩,⟨#[]⟩,⟨#[]⟩,0,[]⟩⟩
def xA.cells(p:xA):Id:=[.string p.key,.int .i64 p.val.kind,.int .i64 p.val.num,.string p.val.text]
def xA.ok(p:xA):Prop:=wI p.key∧p.val.ok
structure bH.ok(e:bH):Prop where
 bN:wI e.bN
 to:wI e.to
 label:wI e.label
 props:∀p∈e.props,p.ok
 len:e.props.length<=140737488355328
theorem bH.ok.aau{e:bH}(h:e.ok)(hl:e.props.length<=16777216):xv e:=by
 have V:=h.bN;have U:=h.to;have O:=h.label;unfold wI at V U O;refine⟨by unfold maxLen;omega,by unfold maxLen;omega,by unfold maxLen;omega,λp A=>?_,hl⟩;obtain⟨u,q⟩:=h.props p A;unfold Hk.ok at q;unfold wI at u q;exact⟨by unfold maxLen;omega,by unfold maxLen;omega⟩
variable {D:Nat->Prop} {nu:EQ}
end
def fG:PL->K2×Int->PL
 | [],p=>[p]
 |q::l,p=>if pq q.1 p.1 then q::fG l p else if q.1=p.1 then(q.1,max q.2 p.2)::l else p::q::l
def cI(l:PL)(p:K2×Int):Nat:=(l.takeWhile (λq=>decide (pq q.1 p.1))).length
theorem Db(l:PL)(p:K2×Int):cI l p<=l.length:=(List.takeWhile_prefix _).length_le
theorem Ko:∀(l:PL)(p:K2×Int)(j:Nat)(h:j<l.length),j<cI l p->pq l[j].1 p.1
 |q::l,p,0,_,u=>by
  by_cases h:pq q.1 p.1
  ·exact h
  ·simp[cI,h]at u
 |q::l,p,j+1,h,u=>by
  by_cases A:pq q.1 p.1
  ·simp only[cI,List.takeWhile_cons,A,decide_true,if_true,ae0]at u;exact Ko l p j (by simpa using h) (by simp only[cI];omega)
  ·simp[cI,A]at u
theorem Da:∀(l:PL)(p:K2×Int)(h:cI l p<l.length), ¬pq l[cI l p].1 p.1
 |q::l,p,h=>by
  by_cases u:pq q.1 p.1
  ·have e:cI (q::l) p=cI l p+1:=by simp[cI,u]
   have:=Da l p (by simp only[e,ae0]at h;omega)
   simpa only[e,List.getElem_cons_succ]using this
  ·have e:cI (q::l) p=0:=by simp[cI,u]
   simpa only[e,List.getElem_cons_zero]using u
theorem xk:∀(l:PL)(p:K2×Int),fG l p=if h:cI l p<l.length then(if l[cI l p].1=p.1 then l.set (cI l p) (l[cI l p].1,max l[cI l p].2 p.2)else l.take (cI l p)++p::l.drop (cI l p))else l++[p]
 | [],p=>by simp[fG]
 |q::l,p=>by
  by_cases u:pq q.1 p.1
  ·have e:cI (q::l) p=cI l p+1:=by simp[cI,u]
   rw[fG,if_pos u,xk l p]
   grind
  ·have e:cI (q::l) p=0:=by simp[cI,u]
   rw[fG,if_neg u,dif_pos (by simp[e])]
   grind
theorem F1:∀{l:PL}{p:K2×Int}{q:K2×Int},q∈fG l p->q.1=p.1∨q∈l
 | [],p,q,h=>by grind[fG]
 |a::l,p,q,h=>by
  rw[fG]at h
  split at h
  ·rcases afO.1 h with rfl|h
   ·exact .inr List.mem_cons_self
   ·rcases F1 h with h|h
    ·exact .inl h
    ·exact .inr (aeX _ h)
  ·split at h
   ·rename_i he
    rcases afO.1 h with rfl|h
    ·exact .inl he
    ·exact .inr (aeX _ h)
   ·rcases afO.1 h with rfl|h
    ·exact .inl rfl
    ·exact .inr h
theorem Br:∀{l:PL}(p:K2×Int),ew l->ew (fG l p)
 | [],p,_=>by simp[fG,ew]
 |a::l,p,h=>by
  have H:=h;rw[ew,af6]at h;rw[fG]
  split
  ·rename_i hq;rw[ew,af6];refine⟨λq u=>?_,Br p h.2⟩
   rcases F1 u with e|e
   ·rw[e];exact hq
   ·exact h.1 q e
  ·rename_i hq
   split
   ·rw[ew,af6];exact h
   ·rename_i hne
    have A:pq p.1 a.1:=by
     rcases nQ a.1 p.1 with q|q|q
     ·exact absurd q hq
     ·exact absurd q hne
     ·exact q
    rw[ew,af6];refine⟨λq u=>?_,H⟩
    rcases afO.1 u with rfl|u
    ·exact A
    ·exact iI A (h.1 q u)
theorem S6{l:PL}{k:K2}(h:∀q∈l,pq k q.1):bV l k=none:=by
 induction l with
 |nil=>rfl
 |cons a l ih=>
  rw[bV,if_neg (λe=>ek k (by grind)),ih λq u=>h q (aeX _ u)]
theorem F2:∀{l:PL}(p:K2×Int)(j:K2),ew l->bV (fG l p) j=if p.1=j then some (match bV l p.1 with|some oy=>max oy p.2|none=>p.2)else bV l j
 | [],p,j,_=>by simp[fG,bV]
 |a::l,p,j,h=>by
  have V:=h;rw[ew,af6]at h;rw[fG]
  split
  ·rename_i A;have u:a.1≠p.1:=λe=>ek _ (e ▸ A);rw[bV,F2 p j h.2,bV,if_neg u,bV]
   grind
  ·rename_i A
   split
   ·rename_i U;rw[bV,bV,if_pos U,bV]
    grind
   ·rename_i u
    have O:pq p.1 a.1:=by
     grind[nQ]
    have hn:bV (a::l) p.1=none:=S6 λq H=>by
     grind[iI]
    rw[bV,hn]
def mn(L:PL)(l:PL):PL:=L.foldl fG l
theorem Bt:∀(L:PL)(l b:PL),ew l->(∀j,bV l j=bV b j)->ew (mn L l)∧∀j,bV (mn L l) j=bV (fH L b) j
 | [],l,b,h,q=>⟨h,q⟩
 |p::L,l,b,h,q=>Bt L (fG l p) (gd b p.1 p.2) (Br p h) λj=>by
  grind[F2,EC]
theorem Q0{l:PL}(h:ew l):(l.map Prod.fst).Nodup:=by
 rw[List.Nodup,List.pairwise_map];exact List.Pairwise.imp (R:=λa b:K2×Int=>pq a.1 b.1) (λ{a b}hab(e:a.1=b.1)=>ek b.1 (by grind)) h
theorem F4(L:PL):mn L []=cz (fH L []):=by
 obtain⟨u,q⟩:=Bt L [] [] List.Pairwise.nil λ_=>rfl
 grind[jo,ae1,oK,lU,cL,j5,Q0]
theorem RQ(E:IR):mn (iS E) []=aJ E:=F4 _
theorem mZ(L M l:PL):mn (L++M) l=mn M (mn L l):=List.foldl_append
theorem F3(l:PL)(p:K2×Int):(fG l p).length<=l.length+1:=by
 grind[xk]
theorem qE:∀(L l:PL),(mn L l).length<=l.length+L.length
 | [],l=>by simp[mn]
 |p::L,l=>by
  have q:=qE L (fG l p);have u:=F3 l p;simp only[mn,afD,ae0]at q⊢; omega
section
variable (st:Nat->ByteArray->Option Nat) (E:IR) (root:ByteArray)
abbrev NL:=L1
def atR(e:bH)(l:NL):Nat->Nd×Int
 |0=>((root,0),e.time)
 |j+1=>l.getD j (([].toByteArray,0),0)
def NJ(e:bH)(s:NL×Bool)(j:Nat):NL×Bool:=
 if(atR root e s.1 j).1.1=e.bN then
  match st (atR root e s.1 j).1.2 e.label with
  |some t=>(gd s.1 (e.to,t) (min (atR root e s.1 j).2 e.time),s.2||dV s.1 (e.to,t) (min (atR root e s.1 j).2 e.time))
  |none=>s
 else s
def JH(e:bH)(l:NL)(j:Nat):Prop:=∀t,(atR root e l j).1.1=e.bN->st (atR root e l j).1.2 e.label=some t->dV l (e.to,t) (min (atR root e l j).2 e.time)=false
structure NI(n:Nat)(l:NL):Prop where
 nd:(l.map Prod.fst).Nodup
 ju:∀p∈l,D8 st E p.2 root p.1.1 p.1.2
 key:∀p∈l,p.1∈jz n E
 tim:∀p∈l,∃e∈E,e.time=p.2
def RI(i j:Nat)(l:NL)(m:Bool):Prop:=m=false->(∀k(h:k<E.length),k<i->∀q,q<=l.length->JH st root E[k] l q)∧∀h:i<E.length,∀q,q<j->JH st root E[i] l q
def we(l:NL):Nat:=(l.map λp=>1+E.countP (λe=>decide (e.time<p.2))).sum
end
section
variable {st:Nat->ByteArray->Option Nat} {E:IR} {root:ByteArray} {n:Nat}
theorem We{e:bH}{l:NL}{j:Nat}(q:j<=l.length):(atR root e l j=((root,0),e.time)∧j=0)∨∃h:j-1<l.length,j=j-1+1∧atR root e l j=l[j-1]:=by
 cases j with
 |zero=>exact .inl ⟨rfl,rfl⟩
 |succ j=>
  right;refine⟨zd,zd,?_⟩;show l.getD j _=l[j]
  grind
theorem NI.nil:NI st E root n []:=⟨ae1,λp h=>absurd h af1,λp h=>absurd h af1,λp h=>absurd h af1⟩
theorem NI.len{l:NL}(h:NI st E root n l):l.length<=E.length*n:=by
 have A:(l.map Prod.fst).length<=(jz n E).length:=h.nd.length_le_of_subset λk u=>by
  obtain⟨p,q,rfl⟩:=agR.1 u;exact h.key p q
 grind[List.length_map,qs]
theorem QB{l:NL}(h:NI st E root n l):we E l<=E.length*n*(1+E.length):=by
 have:∀l:NL,we E l<=l.length*(1+E.length):=λl=>by
  induction l with
  |nil=>simp[we]
  |cons a l ih=>
   grind[decide,List.countP_le_length,we,ae0,Nat.succ_mul]
 exact Nat.le_trans (this l) (Nat.mul_le_mul_right _ h.len)
theorem LS{a b:Int}(h:a<b){e:bH}(q:e∈E)(H:e.time=a):E.countP (λe=>decide (e.time<a))<E.countP (λe=>decide (e.time<b)):=by
 obtain⟨s,t,rfl⟩:=List.append_of_mem q
 have A:∀l:IR,l.countP (λe=>decide (e.time<a))<=l.countP (λe=>decide (e.time<b)):=λl=>List.countP_mono_left λx _ u=>by grind
 grind
theorem KG:∀{l:NL}{k:Nd}{t:Int},dV l k t=true->(∀p∈l,∃e∈E,e.time=p.2)->we E l<we E (gL l k t)
 | [],k,t,_,_=>by grind[we,gL]
 |p::l,k,t,h,A=>by
  rw[gL]
  by_cases u:p.1=k
  ·rw[if_pos u];rw[dV,bV,if_pos u]at h
   have h:p.2<t:=by simpa using h
   obtain⟨e,O,U⟩:=A p List.mem_cons_self
   have:=LS h O U
   grind[we]
  ·rw[if_neg u];rw[dV,bV,if_neg u]at h
   have:=KG (l:=l) (k:=k) (t:=t) h λq H=>A q (aeX _ H)
   grind[we]
theorem RN{e:bH}(hst:∀s l t,st s l=some t->t<n)(he:e∈E){l:NL}{m:Bool}{j:Nat}(hj:j<=l.length)(h:NI st E root n l) :
  NI st E root n (NJ st root e (l,m) j).1∧l.length<=(NJ st root e (l,m) j).1.length∧((NJ st root e (l,m) j).2=false->m=false∧(NJ st root e (l,m) j).1=l∧JH st root e l j)∧we E l<=we E (NJ st root e (l,m) j).1∧(m=false->(NJ st root e (l,m) j).2=true->we E l<we E (NJ st root e (l,m) j).1):=by
 have stay:∀q:Prop,(¬q∨True):=λ_=> .inr trivial;simp only[NJ]
 split
 ·rename_i O
  cases U:st (atR root e l j).1.2 e.label with
  |none=>exact⟨h,aed _,λA=>⟨A,rfl,λt _ ht=>by grind⟩,aed _,λY h2=>by grind⟩
  |some t=>
   simp only
   cases hb:dV l (e.to,t) (min (atR root e l j).2 e.time)with
   |false=>
    rw[gd,hb];simp only[Bool.or_false,afq,if_false];exact⟨h,aed _,λA=>⟨A,trivial,λt' _ ht=>by grind⟩,aed _,λY h2=>by grind⟩
   |true=>
    have V:=KG hb h.tim;rw[gd,hb];simp only[Bool.or_true,if_true]
    have hw:D8 st E (min (atR root e l j).2 e.time) root e.to t∧∃e'∈E,e'.time=min (atR root e l j).2 e.time:=by
     rcases We (root:=root) (e:=e) hj with⟨ha,hj0⟩|⟨W,_,ha⟩
     ·rw[ha]at O U⊢;exact⟨.one e t he zd O.symm U,e,he,zd⟩
     ·rw[ha]at O U⊢;have Y:=h.ju _ (afm W);rw[O]at Y;refine⟨.more e _ t (Y.less zd) he zd U,?_⟩;obtain⟨e2,he2,h2⟩:=h.tim _ (afm W)
      grind
    have H:∀p∈gL l (e.to,t) (min (atR root e l j).2 e.time),p=((e.to,t),min (atR root e l j).2 e.time)∨p∈l:=λp u=>by
     obtain⟨k,τ⟩:=p
     have:=(j5 (wU (e.to,t) (min (atR root e l j).2 e.time) h.nd)).2 u
     rw[j6]at this
     split at this
     ·grind
     ·right;exact(j5 h.nd).1 this
    refine⟨⟨wU _ _ h.nd,λp u=>?_,λp u=>?_,λp u=>?_⟩,?_,λA=>by simp at A,zd,λ_ _=>V⟩
    ·rcases H p u with rfl|u
     ·exact hw.1
     ·exact h.ju p u
    ·rcases H p u with rfl|u
     ·exact j7 hst e he _ t U
     ·exact h.key p u
    ·rcases H p u with rfl|u
     ·exact hw.2
     ·exact h.tim p u
    ·have:=congrArg List.length (uF l (e.to,t) (min (atR root e l j).2 e.time))
     grind
 ·rename_i O;exact⟨h,aed _,λA=>⟨A,rfl,λt ht _=>absurd ht O⟩,aed _,λY h2=>by grind⟩
theorem RI.step(q:∀s l t,st s l=some t->t<n){i:Nat}(hi:i<E.length){l:NL}{m:Bool}{j:Nat}(A:j<=l.length)(h:NI st E root n l)(r:RI st E root i j l m):RI st E root i (j+1) (NJ st root E[i] (l,m) j).1 (NJ st root E[i] (l,m) j).2:=λu=>by
 obtain⟨_,_,O,_⟩:=RN (m:=m) q (afm hi) A h;obtain⟨H,Y,W⟩:=O u;obtain⟨V,U⟩:=r H
 grind
theorem RI.iZ{i j:Nat}(hi:i<E.length){l:NL}{m:Bool}(H:l.length<j)(r:RI st E root i j l m):RI st E root (i+1) 0 l m:=λq=>by
 obtain⟨A,u⟩:=r q
 grind
theorem RI.zero(l:NL):RI st E root 0 0 l false:=λ_=>⟨λk _ A=>absurd A (Nat.not_lt_zero _),λ_ q u=>absurd u (Nat.not_lt_zero _)⟩
theorem RI.fin{l:NL}(h:NI st E root n l)(r:RI st E root E.length 0 l false):rm st E root l:=by
 have O:∀e∈E,∀q,q<=l.length->JH st root e l q:=λe he q Y=>by
  obtain⟨k,u,rfl⟩:=ag9.1 he;exact(r rfl).1 k u u q Y
 have get:∀{k:Nd}{t:Int},dV l k t=false->∃σ,(k,σ)∈l∧t<=σ:=λ{k t}hb=>by
  rw[dV]at hb
  cases H:bV l k with
  |none=>grind
  |some oy=>rw[H]at hb;exact⟨oy,(j5 h.nd).1 H,by grind⟩
 refine⟨h.nd,h.ju,fun τ v s hR=>?_⟩
 induction hR with
 |one e s A h2 U h4=>
  obtain⟨σ,W,V⟩:=get (O e A 0 (Nat.zero_le _) s U.symm h4)
  grind[atR]
 |more e s t _ A h2 U ih=>
  obtain⟨ρ,i1,i2⟩:=ih;obtain⟨k,u,hke⟩:=ag9.1 i1
  have ha:atR root e l (k+1)=((e.bN,s),ρ):=by
   show l.getD k _=_
   grind
  obtain⟨σ,W,V⟩:=get (O e A (k+1) u t (by rw[ha]) (by grind))
  grind
end
end
section
variable {P:Program}
theorem bT.mv{f:FuncId}{args:C5}{o o1:AC}{id n:Nat}{ob:aa}(h:bT P f args o (.vec id n) o1)(Y:o1[id]?=some (some ob))(V:ob.fc=true)(hn:ob.rows.length=n):bT P f args o (.vec o1.length n) (o1.set id none++[some ob]):=
 ⟨h.1,λD nu w vargs O U=>(h.2 D nu w vargs O U).mono (by
  rintro e w' ⟨v,nu',o',r',rfl,hm,W,H,rfl,rfl⟩;subst hn;obtain⟨ad,cap,c1,c2,c3,c4,A,u⟩:=J8 W Y V (Nat.le_refl _);rw[List.take_length]at A u
  have ex:v=nu' id ob.rows.length:=by cases H;rfl
  rw[c1]at ex;subst ex;have q:=RA.vec (D:=D) (nu:=iB nu' o'.length (.slice ad ob.rows.length cap)) (o:=o'.set id none++[some ob]) (w:=w') o'.length ob.rows.length ⟨some ob,by rw[<-agZ (i:=id) (a:=none),List.getElem?_concat_length],λx H=>by cases H;simp[aa.hl,V]⟩ (by rw[bX];rfl);rw[bX]at q
  exact⟨_,_,_,_,rfl,hm.trans A,u,q,rfl,rfl⟩)⟩
end
theorem qy{l:PL}{i:Nat}(h:i<l.length):(l.map aK).getD i []=[.v (.string l[i].1.1),.v (.string l[i].1.2),.v (.int .i64 l[i].2)]:=by
 rw[getD_map aK l i [] h];rfl
theorem M0{l:PL}{p:K2×Int}(h:cI l p<l.length)(q:l[cI l p].1=p.1):fG l p=l.set (cI l p) (l[cI l p].1,max l[cI l p].2 p.2):=by rw[xk,dif_pos h,if_pos q]
theorem QI{l:PL}{p:K2×Int}(h:∀h:cI l p<l.length,l[cI l p].1≠p.1):fG l p=l.take (cI l p)++p::l.drop (cI l p):=by
 rw[xk]
 split
 ·rename_i q;rw[if_neg (h q)]
 ·rename_i q
  have:=Db l p
  rw[agH zd,List.drop_eq_nil_of_le zd]
theorem th{l:PL}{p:K2×Int}{k:Nat}(q:∀j(h:j<l.length),j<k->pq l[j].1 p.1)(A:k<=l.length)(u:∀h:k<l.length, ¬pq l[k].1 p.1):k=cI l p:=by
 rcases Nat.lt_trichotomy k (cI l p)with h|h|h
 ·have H:=Db l p;exact absurd (Ko l p k zd h) (u zd)
 ·exact h
 ·exact absurd (q _ zd h) (Da l p zd)
theorem QK(l:PL)(p:K2×Int)(hl:l.length<=1000000)(U:cI l p<l.length)(Y:l[cI l p].1=p.1) :
  bT prog 38 [.vec 0 l.length,.agg (aK p)] [some ⟨61,3,true,l.map aK⟩] (.vec 0 (fG l p).length) [some ⟨61,3,true,(fG l p).map aK⟩]:=by
 have eN:(l.map aK).length=l.length:=zk
 rw[M0 U Y];simp only[aK];refine gF func38 ntmps38 results38 ?_
 (refine bc ?_;intro K hK)
 refine aZ (ι:=Nat) 6 (λk=>[(5,.v (.int .i64 k))]) (λk=>l.length-k) (λk=>k<=l.length∧∀j(h:j<l.length),j<k->pq l[j].1 p.1) 0 ⟨aen _,λj _ h=>absurd h (aha _)⟩ ?_ ?_
 ·refine ab (bF ?_) ar ar
  all_goals rfl
 ·rintro k ⟨O,u⟩ K hK;have eW:=ae (k:=k) zd
  have d1:k<l.length:=by
   rcases aei k l.length with h|h
   ·exact h
   ·exact absurd (u _ U zd) (Da l p U)
  have W:decide ((k:Int)<(l.length:Int))=true:=b0;have eG:=qy d1
  have next:pq l[k].1 p.1->∀j(h:j<l.length),j<k+1->pq l[j].1 p.1:=λh j hj V=>by
   rcases ahb.1 V with q|rfl
   ·exact u j hj q
   ·exact h
  by_cases c1:l[k].1.1.data.toList<p.1.1.data.toList
  ·have f1:Op.bytesLess l[k].1.1.toList p.1.1.toList=true:=cP.2 c1
   (revert K;revert K;refine cw (mQ W eG f1) ?_)
   refine aG eW ?_;exact aw.mk (k+1) ⟨d1,next (.inl c1)⟩ zd (by exact ab ar ar ar)
  ·have f1:Op.bytesLess l[k].1.1.toList p.1.1.toList=false:=by
    cases h:Op.bytesLess l[k].1.1.toList p.1.1.toList
    ·rfl
    ·exact absurd (cP.1 h) c1
   have here: ¬pq l[k].1 p.1->l[k].1=p.1∧k=cI l p:=λh=>by
    have:=th u O λ_=>h
    subst this;exact⟨Y,rfl⟩
   by_cases c2:l[k].1.1=p.1.1
   ·have f2:(l[k].1.1.toList==p.1.1.toList)=true:=by rw[c2];simp
    by_cases H:l[k].1.2.data.toList<p.1.2.data.toList
    ·have f3:Op.bytesLess l[k].1.2.toList p.1.2.toList=true:=cP.2 H
     (revert K;revert K;refine cw (qu W eG f1 f2 f3) ?_)
     refine aG eW ?_;exact aw.mk (k+1) ⟨d1,next (.inr ⟨c2,H⟩)⟩ zd (by exact ab ar ar ar)
    ·have f3:Op.bytesLess l[k].1.2.toList p.1.2.toList=false:=by
      cases h:Op.bytesLess l[k].1.2.toList p.1.2.toList
      ·rfl
      ·exact absurd (cP.1 h) H
     obtain⟨h2,h3⟩:=here λh=>by
      rcases h with h|h
      ·exact c1 h
      ·exact H h.2
     have f4:(l[k].1.2.toList==p.1.2.toList)=true:=by rw[h2];simp
     (revert K;revert K;refine AO 5 (nU W eG f1 f2 f3 f4) ?_;intro K hK K hK)
     refine bG [12] [] za zo ?_
     (revert K;revert K;refine ak eG ?_)
     subst h3
     have eM:(if p.2 > l[cI l p].2 then p.2 else l[cI l p].2)=max l[cI l p].2 p.2:=by split<;>omega
     rw[eM,agZ]
     have eR:(l.set (cI l p) (l[cI l p].1,max l[cI l p].2 p.2)).map aK=(l.map aK).set (cI l p) [.v (.string l[cI l p].1.1),.v (.string l[cI l p].1.2),.v (.int .i64 (max l[cI l p].2 p.2))]:=by rw[ago];rfl
     have A:=bu 1 (l.set (cI l p) (l[cI l p].1,max l[cI l p].2 p.2));rw[eR]at A⊢;refine⟨ej,AW ?_,ej⟩
     all_goals exact A
   ·exfalso
    obtain⟨h1,_⟩:=here λh=>by
     rcases h with h|h
     ·exact c1 h
     ·exact c2 h.1
    exact c2 (congrArg Prod.fst h1)
theorem UA(l:PL)(p:K2×Int)(hl:l.length<=1000000)(he:∀h:cI l p<l.length,l[cI l p].1≠p.1) :
  bT prog 38 [.vec 0 l.length,.agg (aK p)] [some ⟨61,3,true,l.map aK⟩] (.vec 3 (fG l p).length) [none,none,none,some ⟨61,3,true,(fG l p).map aK⟩]:=by
 have eN:(l.map aK).length=l.length:=zk
 have hkl':=Db l p;have V:=QI he;have O:=bu 4 (fG l p)
 have fin:∀k,k=cI l p->(l.take k).map aK++([.v (.string p.1.1),.v (.string p.1.2),.v (.int .i64 p.2)]::(l.drop k).map aK)=(fG l p).map aK∧k+(l.length-k+1)=(fG l p).length:=λk hk=>by
  rw[V, <- hk,agN,afZ];exact⟨rfl,ahn⟩
 generalize(fG l p).map aK=R at *;generalize(fG l p).length=N at *;clear V;simp only[aK];refine gF func38 ntmps38 results38 ?_
 (refine bc ?_;intro K hK)
 refine aZ (ι:=Nat) 6 (λk=>[(5,.v (.int .i64 k))]) (λk=>l.length-k) (λk=>k<=l.length∧∀j(h:j<l.length),j<k->pq l[j].1 p.1) 0 ⟨aen _,λj _ h=>absurd h (aha _)⟩ ?_ ?_
 ·refine ab (bF ?_) ar ar
  all_goals rfl
 ·rintro k ⟨H,u⟩ K hK;have eW:=ae (k:=k) zd
  have r1:((l.map aK).drop k).take (l.length-k)=(l.drop k).map aK:=by
   rw[<-List.map_drop];exact agH zk
  have r2:(l.drop k).length=l.length-k:=zk
  have r3:(l.map aK).take k=(l.take k).map aK:=by rw[List.map_take]
  have Y:(l.take k).length=k:=ahn
  by_cases d1:k<l.length
  ·have U:decide ((k:Int)<(l.length:Int))=true:=b0;have eG:=qy d1
   have next:pq l[k].1 p.1->∀j(h:j<l.length),j<k+1->pq l[j].1 p.1:=λh j hj hjk=>by
    rcases ahb.1 hjk with q|rfl
    ·exact u j hj q
    ·exact h
   by_cases c1:l[k].1.1.data.toList<p.1.1.data.toList
   ·have f1:Op.bytesLess l[k].1.1.toList p.1.1.toList=true:=cP.2 c1
    (revert K;revert K;refine cw (mQ U eG f1) ?_)
    refine aG eW ?_;exact aw.mk (k+1) ⟨d1,next (.inl c1)⟩ zd (by exact ab ar ar ar)
   ·have f1:Op.bytesLess l[k].1.1.toList p.1.1.toList=false:=by
     cases h:Op.bytesLess l[k].1.1.toList p.1.1.toList
     ·rfl
     ·exact absurd (cP.1 h) c1
    by_cases c2:l[k].1.1=p.1.1
    ·have f2:(l[k].1.1.toList==p.1.1.toList)=true:=by rw[c2];simp
     by_cases W:l[k].1.2.data.toList<p.1.2.data.toList
     ·have f3:Op.bytesLess l[k].1.2.toList p.1.2.toList=true:=cP.2 W
      (revert K;revert K;refine cw (qu U eG f1 f2 f3) ?_)
      refine aG eW ?_;exact aw.mk (k+1) ⟨d1,next (.inr ⟨c2,W⟩)⟩ zd (by exact ab ar ar ar)
     ·have f3:Op.bytesLess l[k].1.2.toList p.1.2.toList=false:=by
       cases h:Op.bytesLess l[k].1.2.toList p.1.2.toList
       ·rfl
       ·exact absurd (cP.1 h) W
      have A:k=cI l p:=th u H λ_ h=>by
       rcases h with h|h
       ·exact c1 h
       ·exact W h.2
      have f4:(l[k].1.2.toList==p.1.2.toList)=false:=by
       subst A
       cases hh:(l[cI l p].1.2.toList==p.1.2.toList)
       ·rfl
       ·exact absurd (Prod.ext c2 (toList_inj.1 hh)) (he d1)
      (revert K;revert K;refine AO 7 (nU U eG f1 f2 f3 f4) ?_;intro K hK)
      refine bn (fP 0 0 rfl rfl rfl (agv _)) zo ?_;simp only[afH,afG];refine bG [1,5] [(4,0)] za zo ?_
      (revert K;refine Fb (pt r1 r2 r3 Y) ?_)
      rw[(fin k A).1,(fin k A).2];refine⟨ej,AW ?_,ej⟩
      all_goals exact O
    ·have f2:(l[k].1.1.toList==p.1.1.toList)=false:=by
      cases hh:(l[k].1.1.toList==p.1.1.toList)
      ·rfl
      ·exact absurd (toList_inj.1 hh) c2
     have A:k=cI l p:=th u H λ_ h=>by
      rcases h with h|h
      ·exact c1 h
      ·exact c2 h.1
     (revert K;revert K;refine AO 7 (pt U eG f1 f2) ?_;intro K hK)
     refine bn (fP 0 0 rfl rfl rfl (agv _)) zo ?_;simp only[afH,afG];refine bG [1,5] [(4,0)] za zo ?_
     (revert K;refine Fb (pt r1 r2 r3 Y) ?_)
     rw[(fin k A).1,(fin k A).2];refine⟨ej,AW ?_,ej⟩
     all_goals exact O
  ·have U:decide ((k:Int)<(l.length:Int))=false:=bi;have A:k=cI l p:=th u H λh=>absurd h d1
   (revert K;revert K;refine AO 7 U ?_;intro K hK)
   refine bn (fP 0 0 rfl rfl rfl (agv _)) zo ?_;simp only[afH,afG];refine bG [1,5] [(4,0)] za zo ?_
   (revert K;refine Fb (pt r1 r2 r3 Y) ?_)
   rw[(fin k A).1,(fin k A).2];refine⟨ej,AW ?_,ej⟩
   all_goals exact O
theorem KK(l:PL)(p:K2×Int)(hl:l.length<=1000000) :
  bT prog 38 [.vec 0 l.length,.agg (aK p)] [some ⟨61,3,true,l.map aK⟩] (.vec 3 (fG l p).length) [none,none,none,some ⟨61,3,true,(fG l p).map aK⟩]:=by
 by_cases h:∃h:cI l p<l.length,l[cI l p].1=p.1
 ·exact((QK l p hl h.1 h.2).pad 2).mv (ob:=⟨61,3,true,(fG l p).map aK⟩) rfl rfl zk
 ·exact UA l p hl λu q=>h ⟨u,q⟩
theorem BP(l:IR):(iS l).length=2*l.length:=by
 induction l with
 |nil=>rfl
 |cons a l ih=>simp only[iS,List.flatMap_cons,List.length_append,ae0,aeg]at ih⊢; omega
theorem zH:∀{E:IR}{i:Nat}(h:i<E.length),(iS E).take (2*i+1)=(iS E).take (2*i)++[((E[i].bN,E[i].bN),E[i].time)]∧(iS E).take (2*(i+1))=(iS E).take (2*i+1)++[((E[i].to,E[i].to),E[i].time)]
 |e::E,0,_=>⟨rfl,rfl⟩
 |e::E,i+1,h=>by
  have A:i<E.length:=by simpa using h
  obtain⟨u,q⟩:=zH A;have ex:iS (e::E)=((e.bN,e.bN),e.time)::((e.to,e.to),e.time)::iS E:=rfl;simp only[ex,show 2*(i+1)+1=(2*i+1)+1+1 by omega,show 2*(i+1+1)=2*(i+1)+1+1 by omega,show 2*(i+1)=2*i+1+1 by omega,List.take_succ_cons,List.getElem_cons_succ,afz]at u q⊢;exact⟨by rw[u],by rw[q]⟩
theorem KT(E:IR)(hE:E.length<=100000):aj prog 17 [.aA 5 (E.map aU) E.length] (.aA 3 ((aJ E).map aK) (aJ E).length):=by
 have hV:∀k,(mn ((iS E).take k) []).length<=1000000:=λk=>by
  have h1:=qE ((iS E).take k) [];have h2:=BP E;simp only[List.length_take,aeg]at h1;omega
 obtain⟨S,H⟩:∃S:Nat->PL,S=λk=>mn ((iS E).take k) []:=⟨_,rfl⟩
 have A:∀k,(S k).length<=1000000:=λk=>by rw[H];exact hV k
 have u:S (2*E.length)=aJ E:=by
  rw[H, <- RQ]
  have:(iS E).length=2*E.length:=BP E
  rw[<-this];simp only[List.take_length]
 have U:∀i(h:i<E.length),S (2*i+1)=fG (S (2*i)) ((E[i].bN,E[i].bN),E[i].time)∧S (2*(i+1))=fG (S (2*i+1)) ((E[i].to,E[i].to),E[i].time):=λi h=>by
  obtain⟨h1,h2⟩:=zH h;rw[H];exact⟨by simp only[h1,mZ];rfl,by simp only[h2,mZ];rfl⟩
 have h0:S 0=[]:=by rw[H];rfl
 clear H hV;rw[<-u]
 have eF:(AV.aA 3 ((S (2*E.length)).map aK) (S (2*E.length)).length).wf 0=true:=by simp only[AV.wf,bu]
 have hA:aQ 0 [.aA 5 (E.map aU) E.length]=true:=by simp only[aQ,AV.wf,df,Bool.and_true]
 (refine aj.iy func17 rfl zo zo rfl hA eF ?_;simp only[ntmps17,results17,ae0,aeg,Nat.reduceAdd,Nat.reduceSub,afJ,afK,afz,List.nil_append])
 (refine ag ?_;intro K hK)
 refine fN (ι:=Nat) 3 61 3 rfl zs 5 (λi=>[(3,.vec 0 (S (2*i)).length),(4,.v (.int .i64 (i:Nat)))]) (λi=>[some ⟨61,3,true,(S (2*i)).map aK⟩]) (λi=>E.length-i) (λi=>i<=E.length) 0 (aen _) ?_ ?_
 ·rw[h0];refine ab (bF ?_) ar ar
  all_goals rfl
 ·intro i hi K hK;have O:=λn k=>bu n (S k);have hr:=λf k=>bj f _ (bu 0 (S k))
  rcases aei i E.length with h|h
  ·obtain⟨W,V⟩:=U i h;have d1:decide ((i:Int)<(E.length:Int))=true:=b0;have ws:=ae (k:=i) zd;have eG:=qx h;have P1:=KK (S (2*i)) ((E[i].bN,E[i].bN),E[i].time) (A _);have P2:=KK (S (2*i+1)) ((E[i].to,E[i].to),E[i].time) (A _);rw[<-W]at P1;rw[<-V]at P2;simp only[aK]at P1 P2
   (revert K;revert K;refine Pn 5 d1 eG ?_;iterate 4 intro K hK)
   refine bG [17] [] za zo ?_
   ((iterate 4 revert K);refine ak eG ?_;iterate 5 intro K hK)
   refine dP.out P1 ?_
   ((iterate 5 revert K);refine jd 6 eG ?_;intro K hK K hK K hK)
   refine me [3] (bN 48 [(0,.aA 5 (E.map aU) E.length),(2,.v (.slice none 0 0)),(3,.vec 0 (S (2*i+1)).length),(4,.v (.int .i64 (i:Nat)))]) [some ⟨61,3,true,(S (2*i+1)).map aK⟩] zk ?_ ?_ ?_ zo ?_
   ·simp only[afZ,List.map_nil,afr,afs,Option.map_some,aa.bb,hr]
   ·intro k ob q
    match k,q with
    |0,q=>cases q;exact O _ _
    |k+1,q=>simp at q
   ·simp only[bN,afD,afE,afJ,afK,go_sem];simp only[pA,AV.bb,sig,go_sem];simp
   simp only[bN,afD,afE,afJ,afK,go_sem]
   ((iterate 3 revert K);refine jd 6 eG ?_;intro K hK K hK K hK)
   refine bG [17] [] za zo ?_
   ((iterate 3 revert K);refine ak eG ?_;iterate 4 intro K hK)
   refine dP.out P2 ?_
   ((iterate 4 revert K);refine dG 4 ?_;intro K hK K hK)
   refine me [3] (bN 48 [(0,.aA 5 (E.map aU) E.length),(2,.v (.slice none 0 0)),(3,.vec 0 (S (2*(i+1))).length),(4,.v (.int .i64 (i:Nat)))]) [some ⟨61,3,true,(S (2*(i+1))).map aK⟩] zk ?_ ?_ ?_ zo ?_
   ·simp only[afZ,List.map_nil,afr,afs,Option.map_some,aa.bb,hr]
   ·intro k ob q
    match k,q with
    |0,q=>cases q;exact O _ _
    |k+1,q=>simp at q
   ·simp only[bN,afD,afE,afJ,afK,go_sem];simp only[pA,AV.bb,sig,go_sem];simp
   simp only[bN,afD,afE,afJ,afK,go_sem]
   (revert K;revert K;refine ak ws ?_)
   exact aw.mk (i+1) h zd (by exact ab ar ar ar;all_goals exact O _ _)
  ·have Y:i=E.length:=zd
   have d1:decide ((i:Int)<(E.length:Int))=false:=bi;subst Y
   (revert K;revert K;refine ak d1 ?_)
   exact bC.sj (ob:=⟨61,3,true,(S (2*E.length)).map aK⟩) rfl rfl zk (O _ _)
def pH(p:Nd×Int):C5:=[.v (.string p.1.1),.v (.int .i64 (p.1.2:Nat)),.v (.int .i64 p.2)]
theorem dh(n:Nat)(l:NL):bE n (l.map pH)=true:=bt _ (λ_=>rfl) l
attribute [go_sem] dh
theorem CR{l:NL}{i:Nat}(h:i<l.length):(l.map pH).getD i []=[.v (.string l[i].1.1),.v (.int .i64 (l[i].1.2:Nat)),.v (.int .i64 l[i].2)]:=by
 rw[getD_map pH l i [] h];rfl
theorem YM:∀{l:NL}{k:Nd}{t:Int}{n:Nat}(h:n<l.length),(∀q(H:q<l.length),q<n->l[q].1≠k)->l[n].1=k->bV l k=some l[n].2∧gL l k t=l.set n (k,t)
 |p::l,k,t,0,_,_,u=>by
  have u:p.1=k:=u;rw[bV,if_pos u,gL,if_pos u];exact⟨rfl,rfl⟩
 |p::l,k,t,n+1,h,A,u=>by
  have O:p.1≠k:=A 0 zk zd
  have:=YM (l:=l) (k:=k) (t:=t) (n:=n) (by simpa using h) (λq H U=>A (q+1) (by simpa using H) zd) u
  rw[bV,if_neg O,gL,if_neg O];exact⟨this.1,by rw[this.2];rfl⟩
theorem YN:∀{l:NL}{k:Nd}{t:Int},(∀q(u:q<l.length),l[q].1≠k)->bV l k=none∧gL l k t=l++[(k,t)]
 | [],k,t,_=>⟨rfl,rfl⟩
 |p::l,k,t,h=>by
  have A:p.1≠k:=h 0 zk
  have:=YN (l:=l) (k:=k) (t:=t) λq u=>h (q+1) (by simpa using u)
  rw[bV,if_neg A,gL,if_neg A];exact⟨this.1,by rw[this.2];rfl⟩
theorem gn(n:Nat)(e:bH):aQ n (aU e)=true:=by simp only[aU,aQ,AV.wf,cM,Bool.and_self]
def abT(A:o8)(E:IR)(root:ByteArray)(r:AV)(o:AC):Prop:=∃l:NL,rm (gY A) E root l∧l.length<=E.length*A.rows.length∧r=.vec 0 l.length∧o=[some ⟨92,3,true,l.map pH⟩]
theorem M9{A:o8}{nv:C5}(C:∀(s:Int)l,aj prog 70 [.vp nv,.v (.int .i64 s),.v (.string l)] (stepT (jr A s l)))(wn:∀m,aQ m nv=true)(E:IR)(hE:E.length<=100)(hmax:A.rows.length<=1000)(hst:∀s l t,gY A s l=some t->t<A.rows.length)(root:ByteArray) :
  ft prog 39 [.vp nv,.aA 5 (E.map aU) E.length,.v (.string root)] [] (abT A E root):=by
 have hB:∀{l:NL},NI (gY A) E root A.rows.length l->l.length<=E.length*A.rows.length:=λh=>h.len;have hBB:E.length*A.rows.length<=100*1000:=Nat.mul_le_mul hE hmax;simp only[stepT]at C;refine ft.enter func39 rfl zo zo rfl ?_;simp only[ntmps39,results39,ae0,aeg,Nat.reduceAdd,Nat.reduceSub,afJ,afK,afz,List.nil_append]
 (refine bc ?_;intro K hK)
 refine fN (ι:=NL×Bool) 7 92 3 rfl zs 17 (λx=>[(7,.vec 0 x.1.length),(8,.v (.bool x.2)),(9,.undef),(10,.undef),(11,.undef),(12,.undef),(13,.undef),(14,.undef),(15,.undef),(16,.undef)]) (λx=>[some ⟨92,3,true,x.1.map pH⟩]) (λx=>E.length*A.rows.length*(1+E.length)-we E x.1+x.2.toNat) (λx=>NI (gY A) E root A.rows.length x.1∧(x.2=false->rm (gY A) E root x.1)) ([],true) ⟨NI.nil,λh=>by cases h⟩ ?_ ?_
 ·refine ab (bF ?_) ar ar
  all_goals first|exact wn _|exact⟨wn _,rfl⟩|exact⟨rfl,gn _ _⟩
 ·rintro⟨U,m0⟩ ⟨hN0,hD0⟩ K hK;simp only at hN0 hD0⊢
  cases m0
  ·have hD:=hD0 rfl
   (revert K;revert K;refine bc ?_)
   exact⟨U,hD,hB hN0,rfl,rfl⟩
  ·(revert K;revert K;refine dG 6 ?_;intro K hK K hK)
   refine aN (ι:=NL×Bool×Nat) 17 (λx=>[(7,.vec 0 x.1.length),(8,.v (.bool x.2.1)),(9,.v (.int .i64 (x.2.2:Nat))),(10,.undef),(11,.undef),(12,.undef),(13,.undef),(14,.undef),(15,.undef),(16,.undef)]) (λx=>[some ⟨92,3,true,x.1.map pH⟩]) (λx=>E.length-x.2.2) (λx=>NI (gY A) E root A.rows.length x.1∧x.2.2<=E.length∧RI (gY A) E root x.2.2 0 x.1 x.2.1∧we E U<=we E x.1∧(x.2.1=true->we E U<we E x.1)) (U,false,0) ⟨hN0,aen _,RI.zero U,Nat.le_refl _,λh=>by cases h⟩ ?_ ?_
   ·refine ab (bF ?_) ar ar
    all_goals first|exact dh _ _|exact wn _|exact⟨wn _,rfl⟩|exact⟨wn _,zk⟩
   ·rintro⟨l,m,i⟩ ⟨hN,hi,hR,hp1,hp2⟩ K hK;simp only at hN hi hR hp1 hp2⊢
    rcases aei i E.length with h|h
    ·have d1:decide ((i:Int)<(E.length:Int))=true:=b0;have ws:=ae (k:=i) zd;have eG:=qx h
     ((iterate 3 revert K);refine Pn 10 d1 eG ?_;iterate 4 intro K hK)
     refine aN (ι:=NL×Bool×Nat) 17 (λx=>[(7,.vec 0 x.1.length),(8,.v (.bool x.2.1)),(11,.v (.int .i64 ((x.2.2:Int)-1))),(12,.undef),(13,.undef),(14,.undef),(15,.undef),(16,.undef)]) (λx=>[some ⟨92,3,true,x.1.map pH⟩,some ⟨35,5,false,[aU E[i]]⟩]) (λx=>E.length*A.rows.length+2-x.2.2) (λx=>NI (gY A) E root A.rows.length x.1∧x.2.2<=x.1.length+1∧RI (gY A) E root i x.2.2 x.1 x.2.1∧we E U<=we E x.1∧(x.2.1=true->we E U<we E x.1)) (l,m,0) ⟨hN,aen _,hR,hp1,hp2⟩ ?_ ?_
     ·simp only[aU];refine ab (bF ?_) ar ar
      all_goals first|exact dh _ _|exact wn _|exact⟨wn _,rfl⟩|exact⟨wn _,zk⟩
     ·rintro⟨u,m1,j⟩ ⟨O,hj,hR1,V,hq2⟩ K hK;simp only at O hj hR1 V hq2⊢;simp only[aU];have hlen:=hB O
      rcases aei u.length j with hx|hx
      ·have d2:decide (((j:Int)-1)<(u.length:Int))=false:=bi
       ((iterate 5 revert K);refine aG (q9 d2 ws) ?_)
       refine aw.mk (u,m1,i+1) ⟨O,h,hR1.iZ h hx,V,hq2⟩ (show E.length-(i+1)<E.length-i by omega) ?_;refine ab (bF ?_) ar ar
       all_goals first|exact dh _ _|exact wn _|exact⟨wn _,rfl⟩|exact⟨wn _,zk⟩
      ·have d2:decide (((j:Int)-1)<(u.length:Int))=true:=b0
       have eWj:IntKind.i64.wrap (((j:Int)-1)+1)=(((j+1:Nat):Int)-1):=by rw[bS zd zd];omega
       obtain⟨u1,u2,_,u4,u5⟩:=RN (e:=E[i]) (m:=m1) hst (List.getElem_mem h) hx O;have uR:=hR1.step hst h hx O
       have nxt:∀(L:NL)(mm:Bool),NJ (gY A) root E[i] (u,m1) j=(L,mm)->NI (gY A) E root A.rows.length L∧j+1<=L.length+1∧RI (gY A) E root i (j+1) L mm∧we E U<=we E L∧(mm=true->we E U<we E L):=λL mm e=>by
        rw[e]at u1 u2 u4 u5 uR;refine⟨u1,by have:=u2;simp only at this;omega,uR,Nat.le_trans V u4,λh=>?_⟩
        by_cases hm:m1=true
        ·exact Nat.lt_of_lt_of_le (hq2 hm) u4
        ·exact Nat.lt_of_le_of_lt V (u5 (by simpa using hm) h)
       obtain⟨a,ha⟩:∃a,a=atR root E[i] u j:=⟨_,rfl⟩
       have eU:NJ (gY A) root E[i] (u,m1) j=if a.1.1=E[i].bN then match gY A a.1.2 E[i].label with|some t=>(gd u (E[i].to,t) (min a.2 E[i].time),m1||dV u (E[i].to,t) (min a.2 E[i].time))|none=>(u,m1)else(u,m1):=by rw[ha];rfl
       repeat((fail_if_success (with_reducible refine Rt (i:=13) ?_));first|(with_reducible first|refine bA.up ?_|refineλ(K:AK)hK=>?_|(refine hK _ ?_;clear hK K))|simp only[go_sem,d2]|with_reducible refine wA ?_|clear hK K)
       refine vQ ⟨bN 118 [(0,.vp nv),(1,.aA 5 (E.map aU) E.length),(2,.v (.string root)),(6,.v (.slice none 0 0)),(7,.vec 0 u.length),(8,.v (.bool m1)),(9,.v (.int .i64 (i:Nat))),(10,.ptr 1 0 5 0 0),(11,.v (.int .i64 ((j:Int)-1))),(12,.ptr 2 0 3 0 0)],[some ⟨92,3,true,u.map pH⟩,some ⟨35,5,false,[[.v (.string E[i].bN),.v (.string E[i].to),.v (.string E[i].label),.v (.int .i64 E[i].time),.aA 4 (E[i].props.map c8) E[i].props.length]]⟩,some ⟨92,3,false,[[.v (.string a.1.1),.v (.int .i64 (a.1.2:Nat)),.v (.int .i64 a.2)]]⟩],.no⟩ zo zo ?_ ?_
       ·cases j with
        |zero=>
         have d3:decide ((0:Int)<=((0:Nat):Int)-1)=false:=zs
         rw[ha]
         ((iterate 6 revert K);refine aG d3 ?_)
         refine ab (bF ?_) (bF ?_) ar
         all_goals first|rfl|exact wn _|exact dh _ _|exact⟨wn _,rfl⟩|exact⟨rfl,gn _ _⟩
        |succ j=>
         have d3:decide ((0:Int)<=((j+1:Nat):Int)-1)=true:=b0
         have hj2:j<u.length:=zd
         have eT:(((j+1:Nat):Int)-1).toNat=j:=zd
         have eA:atR root E[i] u (j+1)=u[j]:=by
          show u.getD j _=_;rw[List.getD_eq_getElem?_getD,List.getElem?_eq_getElem hj2,Option.getD_some]
         have eN:=CR hj2;have d4:decide ((((j+1:Nat):Int)-1)<(u.length:Int))=true:=d2;rw[ha,eA]
         ((iterate 6 revert K);refine aG (mQ d3 eT eN) ?_)
         refine ab (bF ?_) ar ar
         all_goals first|exact wn _|exact dh _ _|exact⟨wn _,rfl⟩|exact⟨rfl,gn _ _⟩
       ·simp only[bN,afD,afE,afJ,afK,go_sem]
        ((iterate 6 revert K);refine bc ?_;iterate 8 intro K hK)
        refine ah.one (C a.1.2 E[i].label) ?_;have eS:jr A ((a.1.2:Nat):Int) E[i].label=gY A a.1.2 E[i].label:=rfl;rw[eS]
        by_cases hf:a.1.1=E[i].bN
        ·have f1:(a.1.1.toList !=E[i].bN.toList)=false:=by rw[hf];simp
         have f0:(a.1.1.toList==E[i].bN.toList)=true:=by rw[hf];simp
         rw[if_pos hf]at eU
         cases hs:gY A a.1.2 E[i].label with
         |none=>
          rw[hs]at eU;simp only at eU
          repeat(first|(with_reducible first|refine bA.up ?_|refineλ(K:AK)hK=>?_|refine wD ?_|(refine hK _ ?_;clear hK K))|simp only[go_sem,f0,f1,Option.isSome,Option.getD,Bool.not_false,Go.undef]|with_reducible refine wA ?_|clear hK K)
          refine aG eWj ?_;refine aw.mk (u,m1,j+1) (nxt _ _ eU) (show E.length*A.rows.length+2-(j+1)<E.length*A.rows.length+2-j by omega) ?_;refine ab (bF ?_) (bF ?_) ar
          all_goals first|exact wn _|exact dh _ _|exact⟨wn _,rfl⟩|exact⟨rfl,gn _ _⟩
         |some t=>
          rw[hs]at eU;simp only at eU
          repeat(first|(with_reducible first|refine bA.up ?_|refineλ(K:AK)hK=>?_|refine wD ?_|(refine hK _ ?_;clear hK K))|simp only[go_sem,f0,f1,Option.isSome,Option.getD,Bool.not_true,Go.undef]|with_reducible refine wA ?_|clear hK K)
          have eM:(if E[i].time<a.2 then E[i].time else a.2)=min a.2 E[i].time:=by split<;>omega
          simp only[eM]
          refine aZ (ι:=Nat) 71 (λn=>[(16,.v (.int .i64 (n:Nat)))]) (λn=>u.length-n) (λn=>n<=u.length∧∀q(hq:q<u.length),q<n->u[q].1≠(E[i].to,t)) 0 ⟨aen _,λq _ h=>absurd h (aha _)⟩ ?_ ?_
          ·refine ab (bF ?_) ar ar
           all_goals first|exact wn _|exact dh _ _|exact⟨wn _,rfl⟩|exact⟨wn _,rfl,wn _⟩|exact⟨rfl,gn _ _⟩
          ·rintro n ⟨hn,W⟩ K hK;have wsn:=ae (k:=n) zd
           by_cases Y:n<u.length
           ·have e1:decide ((n:Int)<(u.length:Int))=true:=b0;have eN:=CR Y
            by_cases H:u[n].1.1=E[i].to
            ·have g1:(u[n].1.1.toList !=E[i].to.toList)=false:=by rw[H];simp
             have g0:(u[n].1.1.toList==E[i].to.toList)=true:=by rw[H];simp
             by_cases hk2:u[n].1.2=t
             ·have g2:(((u[n].1.2:Nat):Int) !=(t:Int))=false:=by rw[hk2];simp
              have g3:(((u[n].1.2:Nat):Int)==(t:Int))=true:=by rw[hk2];simp
              obtain⟨q1,q2⟩:=YM (t:=min a.2 E[i].time) Y W (Prod.ext H hk2)
              have q3:((n:Int)==(u.length:Int))=false:=ahn
              by_cases hτ:u[n].2<min a.2 E[i].time
              ·have d5:decide (u[n].2<min a.2 E[i].time)=true:=decide_eq_true hτ
               have q4:dV u (E[i].to,t) (min a.2 E[i].time)=true:=by rw[dV,q1];exact d5
               rw[gd,q4,if_pos rfl,q2,Bool.or_true]at eU
               ((iterate 8 revert K);refine cw (Y0 e1 eN g1 g0 g2 g3 q3 d5) ?_)
               refine aG eWj ?_;refine aw.mk (_,true,j+1) (nxt _ _ eU) (show E.length*A.rows.length+2-(j+1)<E.length*A.rows.length+2-j by omega) ?_;refine ab (bF ?_) (bF ?_) ar
               all_goals first|exact wn _|exact dh _ _|exact⟨wn _,rfl⟩|exact⟨wn _,rfl,wn _⟩|exact⟨rfl,gn _ _⟩|exact⟨wn _,agZ.symm⟩|exact⟨by rw[ago];rfl,rfl,gn _ _⟩|exact⟨by rw[agN];rfl,rfl,gn _ _⟩
              ·have d5:decide (u[n].2<min a.2 E[i].time)=false:=decide_eq_false hτ
               have q4:dV u (E[i].to,t) (min a.2 E[i].time)=false:=by rw[dV,q1];exact d5
               rw[gd,q4,if_neg Bool.false_ne_true,Bool.or_false]at eU
               ((iterate 8 revert K);refine cw (Y0 e1 eN g1 g0 g2 g3 q3 d5) ?_)
               refine aG eWj ?_;refine aw.mk (_,m1,j+1) (nxt _ _ eU) (show E.length*A.rows.length+2-(j+1)<E.length*A.rows.length+2-j by omega) ?_;refine ab (bF ?_) (bF ?_) ar
               all_goals first|exact wn _|exact dh _ _|exact⟨wn _,rfl⟩|exact⟨wn _,rfl,wn _⟩|exact⟨rfl,gn _ _⟩|exact⟨wn _,agZ.symm⟩|exact⟨by rw[ago];rfl,rfl,gn _ _⟩|exact⟨by rw[agN];rfl,rfl,gn _ _⟩
             ·have g2:(((u[n].1.2:Nat):Int) !=(t:Int))=true:=ahn
              have g3:(((u[n].1.2:Nat):Int)==(t:Int))=false:=ahn
              ((iterate 8 revert K);refine cw (nU e1 eN g1 g0 g2 g3) ?_)
              refine aG wsn ?_
              refine aw.mk (n+1) ⟨Y,λq hq hqn=>?_⟩ (show u.length-(n+1)<u.length-n by omega) ?_
              ·rcases ahb.1 hqn with h|rfl
               ·exact W q hq h
               ·exactλhe=>hk2 (congrArg Prod.snd he)
              ·refine ab (bF ?_) ar ar
               all_goals first|exact wn _|exact dh _ _|exact⟨wn _,rfl⟩|exact⟨wn _,rfl,wn _⟩|exact⟨rfl,gn _ _⟩
            ·have g1:(u[n].1.1.toList !=E[i].to.toList)=true:=by
              rw[bne_iff_ne];exactλh=>H (toList_inj.1 (by rw[h];simp))
             have g0:(u[n].1.1.toList==E[i].to.toList)=false:=by
              have:=g1
              simpa using this
             ((iterate 8 revert K);refine cw (pt e1 eN g1 g0) ?_)
             refine aG wsn ?_
             refine aw.mk (n+1) ⟨Y,λq hq hqn=>?_⟩ (show u.length-(n+1)<u.length-n by omega) ?_
             ·rcases ahb.1 hqn with h|rfl
              ·exact W q hq h
              ·exactλhe=>H (congrArg Prod.fst he)
             ·refine ab (bF ?_) ar ar
              all_goals first|exact wn _|exact dh _ _|exact⟨wn _,rfl⟩|exact⟨wn _,rfl,wn _⟩|exact⟨rfl,gn _ _⟩
           ·have hin:n=u.length:=zd
            have e1:decide ((n:Int)<(u.length:Int))=false:=bi
            have q3:((n:Int)==(u.length:Int))=true:=ahn
            obtain⟨q1,q2⟩:=YN (t:=min a.2 E[i].time) (λq hq=>W q hq zd)
            have q4:dV u (E[i].to,t) (min a.2 E[i].time)=true:=by rw[dV,q1]
            rw[gd,q4,if_pos rfl,q2,Bool.or_true]at eU
            ((iterate 8 revert K);refine cw (q9 e1 q3) ?_)
            refine aG eWj ?_;refine aw.mk (_,true,j+1) (nxt _ _ eU) (show E.length*A.rows.length+2-(j+1)<E.length*A.rows.length+2-j by omega) ?_;refine ab (bF ?_) (bF ?_) ar
            all_goals first|exact wn _|exact dh _ _|exact⟨wn _,rfl⟩|exact⟨wn _,rfl,wn _⟩|exact⟨rfl,gn _ _⟩|exact⟨wn _,agZ.symm⟩|exact⟨by rw[ago];rfl,rfl,gn _ _⟩|exact⟨by rw[agN];rfl,rfl,gn _ _⟩
        ·have f1:(a.1.1.toList !=E[i].bN.toList)=true:=by
          rw[bne_iff_ne];exactλh=>hf (toList_inj.1 (by rw[h];simp))
         have f0:(a.1.1.toList==E[i].bN.toList)=false:=by
          have:=f1
          simpa using this
         rw[if_neg hf]at eU
         ((iterate 8 revert K);refine cw (q9 f0 f1) ?_)
         refine aG eWj ?_;refine aw.mk (u,m1,j+1) (nxt _ _ eU) (show E.length*A.rows.length+2-(j+1)<E.length*A.rows.length+2-j by omega) ?_;refine ab (bF ?_) (bF ?_) ar
         all_goals first|exact wn _|exact dh _ _|exact⟨wn _,rfl⟩|exact⟨rfl,gn _ _⟩
    ·have hin:i=E.length:=zd
     have d1:decide ((i:Int)<(E.length:Int))=false:=bi;have hph:=QB hN;have hph0:=QB hN0
     ((iterate 3 revert K);refine aG d1 ?_)
     refine aw.mk (l,m) ⟨hN,λhm=>RI.fin hN (by rw[<-hin, <- hm];exact hR)⟩ ?_ ?_
     ·cases m
      ·simp;omega
      ·have:=hp2 rfl
       simp;omega
     ·refine ab (bF ?_) ar ar
      all_goals first|exact dh _ _|exact wn _|exact⟨wn _,rfl⟩|exact⟨wn _,zk⟩
end Go.Proofs.YtlhhccmopfamhaaGreatDoor
