/- texts of one claim, one behind the other. -/
import Derived.Test.YtlhhccmopfamhaaGreatDoorVLent
import Derived.Test.YtlhhccmopfamhaaGreatDoorVPairsW
import Derived.Test.YtlhhccmopfamhaaGreatDoorVRefR
import Derived.Test.YtlhhccmopfamhaaGreatDoorVMat
import Derived.Test.YtlhhccmopfamhaaGreatDoorVAbsV
import Derived.Test.YtlhhccmopfamhaaGreatDoorVDfaK
set_option linter.unusedSimpArgs false
set_option linter.unusedVariables false
set_option maxRecDepth 100000
set_option maxHeartbeats 16000000
open Bool renaming and_assoc -> ahc, and_self -> agp, and_true -> afe, true_and -> afi, false_and -> afA, false_eq_true -> afq, and_false -> afL, eq_iff_iff -> af7, and_eq_true -> aeW, not_eq_true -> aeR
open List renaming lt_irrefl -> af4, getD_eq_getElem?_getD -> aeS, getElem?_map -> aeu, getElem?_eq_getElem -> aes, getElem_mem -> afm, map_cons -> afZ, findIdx?_cons -> ahd, mem_cons_of_mem -> aeX, map_append -> agN, foldl_append -> agw, foldl_cons -> afD, length_map -> agv, findIdx?_eq_some_iff_getElem -> afj, take_succ_eq_append_getElem -> agD, length_cons -> ae0, cons_append -> afz, length_nil -> aeg, replicate_succ -> afJ, replicate_zero -> afK, nil_append -> afy, drop_eq_getElem_cons -> afW, foldl_nil -> afE, all_eq_true -> ae7, getElem_of_mem -> agb, getElem?_cons_succ -> afs, set_cons_succ -> afG, map_nil -> agt, take_of_length_le -> agH, mem_cons -> afO
open List.cons renaming injEq -> agk
open Nat renaming zero_le -> aen, lt_or_ge -> aei, zero_add -> aeY, le_refl -> aed
open Option.some renaming inj -> aec
namespace Go.Proofs.YtlhhccmopfamhaaGreatDoor
open Go.RowKit
open Go.Proofs.Tryz
theorem PZ(a b:ByteArray):(Op.bytesLess a.toList b.toList||a.toList==b.toList) = !(Op.bytesLess b.toList a.toList):=by
 rcases lu a b with h|h|h
 ·have A:Op.bytesLess a.toList b.toList=true:=cP.2 h
  have u:Op.bytesLess b.toList a.toList=false:=by
   cases q:Op.bytesLess b.toList a.toList
   ·rfl
   ·exact absurd (List.lt_trans h (cP.1 q)) (af4 _)
  rw[A,u];rfl
 ·subst h
  have u:Op.bytesLess a.toList a.toList=false:=by
   cases q:Op.bytesLess a.toList a.toList
   ·rfl
   ·exact absurd (cP.1 q) (af4 _)
  rw[u];simp
 ·have A:Op.bytesLess b.toList a.toList=true:=cP.2 h
  have u:Op.bytesLess a.toList b.toList=false:=by
   cases q:Op.bytesLess a.toList b.toList
   ·rfl
   ·exact absurd (List.lt_trans h (cP.1 q)) (af4 _)
  have H:(a.toList==b.toList)=false:=by
   cases q:(a.toList==b.toList)
   ·rfl
   ·have:=toList_inj.1 q
    subst this;exact absurd h (af4 _)
  rw[A,u,H];rfl
def rb(l:Rd):Nat->ByteArray
 |0=>⟨#[]⟩
 |i+1=>(l.map xA.key).getD i ⟨#[]⟩
theorem rU{l:Rd}{i:Nat}(h:i<l.length):rb l (i+1)=l[i].key:=by
 rw[rb,aeS,aeu,aes h];rfl
def I7(l:Rd)(i:Nat)(p:xA):Bool:=cB p.key&&bo p.val&&(decide (i=0)||Op.bytesLess (rb l i).toList p.key.toList)
theorem QF{l:Rd}{i:Nat}(h:i<l.length):wL (rb l i) (l.drop i)=(I7 l i l[i]&&wL (rb l (i+1)) (l.drop (i+1))):=by
 rw[KI h,rU h,I7];have e:=PZ l[i].key (rb l i);have eL:Ku l[i].key (rb l i)=Op.bytesLess l[i].key.toList (rb l i).toList:=rfl
 have key:∀X Y:Bool,(if(!X)=true then false else Y)=(Y&&X):=zs
 rw[eL,e,key]
 cases i with
 |zero=>
  have A:cB l[0].key=true->Op.bytesLess (rb l 0).toList l[0].key.toList=true:=λu=>by
   rcases lu (⟨#[]⟩:ByteArray) l[0].key with q|q|q
   ·exact cP.2 q
   ·rw[<-q]at u;exact absurd u za
   ·exact absurd q (List.not_lt_nil _)
  by_cases u:cB l[0].key=true
  ·rw[A u,u];simp
  ·rw[Bool.not_eq_true]at u;rw[u];simp
 |succ i=>
  simp only[Nat.succ_ne_zero,decide_false,Bool.false_or];rw[ahc,ahc,ahc,ahc,Bool.and_comm (wL _ _)]
theorem Ws(t:Int):aj prog 108 [.v (.int .i64 t)] (.v (.bool (decide (0<=t∧t<=Ay)))):=by
 refine gE func108 ntmps108 results108 ?_
 by_cases h:0<=t
 ·have d1:decide (0<=t)=true:=decide_eq_true h;refine dj d1 ?_
  congr 2
  exact propext ⟨λq=>⟨h,q⟩,λq=>q.2⟩
 ·have d1:decide (0<=t)=false:=decide_eq_false h;have d2:decide (0<=t∧t<=Ay)=false:=bi;rw[d2];exact Ff d1
structure JJ(e:bH):Prop where
 bN:e.bN.size<=1000000000000000
 to:e.to.size<=1000000000000000
 label:e.label.size<=1000000000000000
 props:∀p∈e.props,p.key.size<=1000000000000000∧p.val.text.size<=1000000000000000
 len:e.props.length<=16777216
theorem LR(e:bH)(W:JJ e):aj prog 69 [.agg (aU e)] (.v (.int .i64 (nR e))):=by
 have C1:=sl e.bN W.bN;have C2:=sl e.to W.to;have C3:=yo e.label W.label;have C4:=Ws e.time;have hpl:=W.len;have V:=W.props;have CF:∀p∈e.props,aj prog 106 [.v (.string p.key)] (.v (.bool (cB p.key))):=λp hp=>yo p.key (V p hp).1;have CV:∀p∈e.props,aj prog 107 [.agg (Tu p.val)] (.v (.bool (bo p.val))):=λp hp=>Na p.val (V p hp).2;generalize u:nR e=R;rw[nR,Bp]at u;obtain⟨fr,to,lb,tm,ps⟩:=e;simp only at *
 have eN:(ps.map c8).length=ps.length:=zk
 simp only[aU]
 (refine aj.enter func69 rfl zo zo rfl (by simp only[go_sem,aQ,AV.wf,agp,afe,afi,cM]) (by simp only[go_sem,aQ,AV.wf,bz,agp,afe,afi,cM]) ?_;simp only[ntmps69,results69,List.length_cons,List.length_nil,Nat.reduceAdd,Nat.reduceSub,List.replicate_succ,List.replicate_zero,List.cons_append,List.nil_append])
 (refine bc ?_;intro K hK K hK K hK)
 refine ah.one C1 ?_
 cases h1:fV fr
 ·rw[h1]at u;simp only[afA,afq,if_false]at u
  ((iterate 3 revert K);refine cw h1 ?_)
  rw[<-u]
 rw[h1]at u
 ((iterate 3 revert K);refine cw h1 ?_;intro K hK K hK K hK)
 refine ah.one C2 ?_
 cases O:fV to
 ·rw[O]at u;simp only[afA,afL,afq,if_false]at u
  ((iterate 3 revert K);refine cw O ?_)
  rw[<-u]
 rw[O]at u
 ((iterate 3 revert K);refine cw O ?_;intro K hK K hK K hK)
 refine ah.one C3 ?_
 cases Y:cB lb
 ·rw[Y]at u;simp only[afA,afL,afq,if_false]at u
  ((iterate 3 revert K);refine cw Y ?_)
  rw[<-u]
 rw[Y]at u;simp only[agp,afi]at u
 by_cases h8:ps.length<=8
 case neg=>
  have d8:decide ((8:Int)<(ps.length:Int))=true:=b0;rw[decide_eq_false h8]at u;simp only[afL,afq,if_false]at u
  ((iterate 3 revert K);refine cw (q9 Y d8) ?_)
  rw[<-u]
 have d8:decide ((8:Int)<(ps.length:Int))=false:=bi;rw[decide_eq_true h8]at u;simp only[afe]at u
 ((iterate 3 revert K);refine cw (q9 Y d8) ?_;intro K hK)
 refine aZ (ι:=Nat) 26 (λk=>[(3,.v (.int .i64 (k:Nat)))]) (λk=>ps.length-k) (λk=>k<=ps.length∧(if wL (rb ps k) (ps.drop k)=true then(if 0<=tm∧tm<=Ay then 0 else 6)else 2)=R) 0 ⟨aen _,u⟩ ?_ ?_
 ·refine ab (bF ?_) ar ar
  all_goals first|rfl|exact⟨cM _ _,rfl⟩
 ·rintro k ⟨hk,q⟩ K hK
  rcases Nat.lt_or_ge k ps.length with h|h
  ·have d1:decide ((k:Int)<(ps.length:Int))=true:=b0;have eG:=CU h;have ws:=ae (k:=k) zd;rw[QF h,I7]at q;have CF1:=CF _ (afm h);have CV1:=CV _ (afm h);have hl:=rU h
   cases k with
   |zero=>
    simp only[decide_true,Bool.true_or,afe]at q
    have d2:decide ((0:Int)<((0:Nat):Int))=false:=zs
    (revert K;revert K;refine cw (mQ d1 d2 eG) ?_;iterate 5 intro K hK)
    refine bQ.one CF1 ?_
    cases H:cB ps[0].key
    ·rw[H]at q;simp only[afA,afq,if_false]at q
     ((iterate 5 revert K);refine cw H ?_)
     rw[q]
    ·rw[H]at q;simp only[afi]at q
     ((iterate 5 revert K);refine cw (q9 H eG) ?_;iterate 5 intro K hK)
     refine bQ.one CV1 ?_
     cases A:bo ps[0].val
     ·rw[A]at q;simp only[afA,afq,if_false]at q
      ((iterate 5 revert K);refine cw A ?_)
      rw[q]
     ·rw[A]at q;simp only[afi]at q
      ((iterate 5 revert K);refine cw (mQ A d2 ws) ?_)
      refine aw.mk 1 ⟨h,q⟩ (show ps.length-1<ps.length-0 by omega) ?_;exact ab ar ar ar
      all_goals first|rfl|exact⟨cM _ _,rfl⟩
   |succ k=>
    have O:k<ps.length:=zd
    have eG2:=CU O;have d2:decide ((0:Int)<((k+1:Nat):Int))=true:=b0
    have U:IntKind.i64.wrap (((k+1:Nat):Int)-1)=(k:Nat):=by rw[bS zd zd];omega
    simp only[rU O,Nat.succ_ne_zero,decide_false,Bool.false_or]at q
    (revert K;revert K;refine cw (mQ d1 d2 eG) ?_;iterate 5 intro K hK)
    refine bQ.one CF1 ?_
    cases H:cB ps[k+1].key
    ·rw[H]at q;simp only[afA,afq,if_false]at q
     ((iterate 5 revert K);refine cw H ?_)
     rw[q]
    ·rw[H]at q;simp only[afi]at q
     ((iterate 5 revert K);refine cw (q9 H eG) ?_;iterate 5 intro K hK)
     refine bQ.one CV1 ?_
     cases A:bo ps[k+1].val
     ·rw[A]at q;simp only[afA,afq,if_false]at q
      ((iterate 5 revert K);refine cw A ?_)
      rw[q]
     ·rw[A]at q;simp only[afi]at q
      cases hb:Op.bytesLess ps[k].key.toList ps[k+1].key.toList
      ·rw[hb]at q;simp only[afA,afq,if_false]at q
       ((iterate 5 revert K);refine cw (Me A d2 ws U eG eG2 hb) ?_)
       rw[q]
      ·rw[hb]at q;simp only[afi]at q
       ((iterate 5 revert K);refine cw (Me A d2 ws U eG eG2 hb) ?_)
       refine aw.mk (k+2) ⟨h,q⟩ (show ps.length-(k+2)<ps.length-(k+1) by omega) ?_;exact ab ar ar ar
       all_goals first|rfl|exact⟨cM _ _,rfl⟩
  ·have hin:k=ps.length:=zd
   have d1:decide ((k:Int)<(ps.length:Int))=false:=bi;rw[hin,List.drop_length,wL]at q;simp only[if_true]at q
   (revert K;revert K;refine aG d1 ?_;intro K hK K hK K hK)
   refine ah.one C4 ?_
   by_cases ht:0<=tm∧tm<=Ay
   ·rw[if_pos ht]at q
    ((iterate 3 revert K);refine aG (decide_eq_true ht) ?_)
    rw[q]
   ·rw[if_neg ht]at q
    ((iterate 3 revert K);refine aG (decide_eq_false ht) ?_)
    rw[q]
theorem PG{part:Do}:∀{r s:bD},r.map Prod.fst=s.map Prod.fst->zh part r=zh part s->r.flatMap (λe=>32::(e.1.data.toList++32::Lib.decDigits (part.getD e.2 0)))=s.flatMap (λe=>32::(e.1.data.toList++32::Lib.decDigits (part.getD e.2 0)))
 | [],[],_,_=>rfl
 | [],b::s,h,_=>by simp at h
 |a::r,[],h,_=>by simp at h
 |a::r,b::s,h,k=>by
  simp only[afZ,agk,zh]at h k;rw[List.flatMap_cons,List.flatMap_cons,PG (r:=r) (s:=s) h.2 k.2,h.1,k.1]
theorem Qr{part:Do}{p:Nat}{r s:bD}(h:r.map Prod.fst=s.map Prod.fst)(k:zh part r=zh part s):du part p r=du part p s:=by
 rw[du,du,y4,y4,PG h k]
def adS(rows:N3)(ends:N2)(part:Do):Prop:=∀s t,s<rows.length->t<rows.length->part.getD s 0≠part.getD t 0->∃w,dQ rows ends s w≠dQ rows ends t w
section
variable {α β:Type} [DecidableEq α] [DecidableEq β]
def wC(st:List α×Do)(x:α):List α×Do:=match st.1.findIdx? (λy=>decide (x=y))with
 |some k=>(st.1,st.2++[k])
 |none=>(st.1++[x],st.2++[st.1.length])
theorem E1{γ:Type}{f:γ->α}{g:γ->β}:∀(ds:List γ)(c:γ),(∀d∈ds,f c=f d↔g c=g d)->(ds.map f).findIdx? (λy=>decide (f c=y))=(ds.map g).findIdx? (λy=>decide (g c=y))
 | [],c,_=>rfl
 |d::ds,c,h=>by
  rw[afZ,afZ,ahd,ahd,E1 ds c (λe q=>h e (aeX _ q))]
  grind
theorem Tx{f:Nat->α}{g:Nat->β}{n:Nat}(h:∀i j,i<n->j<n->(f i=f j↔g i=g j)):∀m,m<=n->∃ds:Do,(∀d∈ds,d<n)∧((List.range m).map f).foldl wC ([],[])=(ds.map f,(((List.range m).map g).foldl wC ([],[])).2)∧(((List.range m).map g).foldl wC ([],[])).1=ds.map g:=λm=>by
 induction m with
 |zero=>grind
 |succ m ih=>
  intro hm;obtain⟨ds,O,H,A⟩:=ih zd;rw[List.range_succ,agN,agN,agw,agw,H];simp only[afZ,List.map_nil,afD,List.foldl_nil];rw[wC,wC,A];simp only;rw[E1 ds m (λd u=>h m d zd (O d u))]
  cases q:(ds.map g).findIdx? (λy=>decide (g m=y))with
  |some k=>grind
  |none=>exact⟨ds++[m],λd u=>by
    grind,zk,zk⟩
end
def iU(labs:B0)(r:bD):M2:=labs.map (λl=>match look r l with
 |some t=>(t:Int)
 |none=> -1)
theorem fD(labs:B0)(r:bD):(iU labs r).length=labs.length:=by rw[iU,agv]
theorem Gy{labs:B0}{l:ByteArray}{r q:bD}(h:∀m∈labs,look q m=look r m):iU (labs++[l]) q=iU labs r++[match look q l with
 |some t=>(t:Int)
 |none=> -1]:=by
 grind[iU,List.map_congr_left]
section
variable (cN:Do->ByteArray->Do)
def rIn(cur:Do)(st:List Do×M2)(lab:ByteArray):List Do×M2:=match st.1.findIdx? (λy=>cN cur lab==y)with
 |some k=>(st.1,st.2++[(k:Int)])
 |none=>if cN cur lab=[]then(st.1,st.2++[-1])else(st.1++[cN cur lab],st.2++[(st.1.length:Int)])
def zl(cur:Do)(all:List Do)(labs:B0):List Do×M2:=labs.foldl (rIn cN cur) (all,[])
theorem Bw(cur:Do)(all:List Do)(labs:B0)(l:ByteArray):zl cN cur all (labs++[l])=rIn cN cur (zl cN cur all labs) l:=by rw[zl,agw];rfl
theorem Uw(all:List Do)(s:Do):pos (all.map lJ) (lJ s)=all.findIdx? (λy=>s==y):=by
 rw[pos]
 have:∀l:List Do,(l.map lJ).findIdx? (λx=>fR (lJ s) x)=l.findIdx? (λy=>s==y):=λl=>by
  induction l with
  |nil=>rfl
  |cons a l ih=>
   rw[afZ,ahd,ahd,ih]
   by_cases e:s=a
   ·subst e;rw[nj.2 rfl,beq_self_eq_true]
   grind[Fv,nj,beq_eq_false_iff_ne]
 grind
theorem Nj(cur:Do)(all:List Do):∀labs:B0,∀l∈(fK cN cur all labs).2.map Prod.fst,l∈labs:=by
 refine ij (by simp[fK]) ?_
 grind[lB,G0,List.mem_append_left,List.mem_singleton]
theorem KQ(cur:Do){all:List Do}(V:[]∉all):∀labs:B0,labs.Nodup->zl cN cur all labs=((fK cN cur all labs).1,iU labs (fK cN cur all labs).2)∧[]∉(fK cN cur all labs).1:=by
 refine ij (λ_=>⟨rfl,V⟩) ?_;intro labs l ih hn;rw[List.nodup_append]at hn;obtain⟨e,U⟩:=ih hn.1;have hl:look (fK cN cur all labs).2 l=none:=lx.2 λu=>hn.2.2 l (Nj cN cur all labs l u) l zk rfl
 have hother:∀k m,m∈labs->look ((fK cN cur all labs).2++[(l,k)]) m=look (fK cN cur all labs).2 m:=λk m u=>by
  have:m≠l:=λq=>hn.2.2 m u l zk q
  rw[kf,kg,if_neg this,Option.or_none]
 have O:∀k,look ((fK cN cur all labs).2++[(l,k)]) l=some k:=λk=>by rw[kf,kg,if_pos rfl,hl];rfl
 rw[Bw,lB,e,rIn,G0,Uw];simp only
 by_cases A:cN cur l=[]
 ·have H:(fK cN cur all labs).1.findIdx? (λy=>cN cur l==y)=none:=by
   grind
  simp only[H,if_pos A];refine⟨?_,U⟩;rw[Gy (r:=(fK cN cur all labs).2) (λm _=>rfl),hl]
 ·simp only[if_neg A]
  grind[Gy,List.mem_singleton]
end
def jM(labs:B0)(rows:N3)(part:Do)(i:Nat):M2:=(part.getD i 0:Int)::(iU labs (rows.getD i [])).map (λt=>if t<0 then -1 else(part.getD t.toNat 0:Int))
theorem QQ{labs:B0}{rows:N3}{part:Do}(Y:∀r∈rows,l8 (r.map Prod.fst))(hL:∀r∈rows,∀l∈r.map Prod.fst,l∈labs)(hn:tC rows){s t:Nat}(U:s<rows.length)(W:t<rows.length) :
  du part (part.getD s 0) (rows.getD s [])=du part (part.getD t 0) (rows.getD t [])↔jM labs rows part s=jM labs rows part t:=by
 have val:∀i l,l∈labs->∀(j:Nat),labs[j]?=some l->((iU labs (rows.getD i [])).map (λt=>if t<0 then -1 else(part.getD t.toNat 0:Int)))[j]?=some (match look (rows.getD i []) l with
   |some t=>(part.getD t 0:Int)
   |none=> -1):=λi l hl j O=>by
  rw[iU,List.map_map,aeu,O,Option.map_some,Function.comp]
  grind
 constructor
 ·intro h;obtain⟨h1,h2,h3⟩:=Bg (xe _ hn s) (xe _ hn t) h;rw[jM,jM,h1]
  congr 1
  refine List.ext_getElem? λj=>?_
  by_cases O:j<labs.length
  ·have e:=aes O
   grind[afm,yM]
  grind[List.getElem?_eq_none,agv,fD]
 ·intro h;rw[jM,jM,agk]at h;obtain⟨h1,h2⟩:=h
  have u:∀l∈labs,(match look (rows.getD s []) l with|some t=>(part.getD t 0:Int)|none=> -1)=(match look (rows.getD t []) l with|some t=>(part.getD t 0:Int)|none=> -1):=λl hl=>by
   obtain⟨j,O,e⟩:=List.getElem_of_mem hl;have e:=(aes O).trans (congrArg some e)
   grind
  have H:=Y _ (bK (d:=[]) U);have A:=Y _ (bK (d:=[]) W)
  have one:∀{a b:Nat},a<rows.length->(∀l∈labs,(match look (rows.getD a []) l with|some t=>(part.getD t 0:Int)|none=> -1)=(match look (rows.getD b []) l with|some t=>(part.getD t 0:Int)|none=> -1))->∀l,l∈(rows.getD a []).map Prod.fst->l∈(rows.getD b []).map Prod.fst:=λ{a b}ha u l hl=>by
   have q:=hL _ (bK (d:=[]) ha) l hl
   have:=u l q
   refine Classical.byContradiction λhn=>?_
   grind[lx]
  have V:=nh H A λl=>⟨one U u l,one W (λl hl=>(u l hl).symm) l⟩;refine Eq.trans (by grind) (Qr V ?_)
  have hlen:(rows.getD s []).length=(rows.getD t []).length:=by simpa using congrArg List.length V
  refine List.ext_getElem (by grind[zh,agv]) λi k1 k2=>?_
  have i1:i<(rows.getD s []).length:=by grind[zh,agv]
  have i2:i<(rows.getD t []).length:=zd
  have q:(rows.getD s [])[i].1=(rows.getD t [])[i].1:=by
   have:=List.getElem_of_eq V (i:=i) (by grind)
   grind
  have hm:=hL _ (bK (d:=[]) U) _ (List.mem_map_of_mem (f:=Prod.fst) (afm i1))
  have:=u _ hm
  rw[Dk (oN H) (show((rows.getD s [])[i].1,(rows.getD s [])[i].2)∈_ from afm i1),q,Dk (oN A) (show((rows.getD t [])[i].1,(rows.getD t [])[i].2)∈_ from afm i2)]at this
  grind[zh,Int.ofNat_inj]
def iQ(labs:B0)(rows:N3)(part:Do)(n:Nat):List M2×Do:=((List.range n).map (jM labs rows part)).foldl wC ([],[])
theorem Un(rows:N3)(part:Do)(n:Nat):fA rows part n=((List.range n).map (λs=>du part (part.getD s 0) (rows.getD s []))).foldl wC ([],[]):=by
 induction n with
 |zero=>rfl
 |succ n ih=>
  rw[vi,ih,List.range_succ,agN,agw];simp only[afZ,List.map_nil,afD,List.foldl_nil];rw[Zn,wC,pos]
  have:(λx=>fR (du part (part.getD n 0) (rows.getD n [])) x)=(λy=>decide (du part (part.getD n 0) (rows.getD n [])=y)):=by
   funext x
   rw[Bool.eq_iff_iff,nj,decide_eq_true_eq]
  grind
theorem tW{labs:B0}{rows:N3}{part:Do}(u:∀r∈rows,l8 (r.map Prod.fst))(A:∀r∈rows,∀l∈r.map Prod.fst,l∈labs)(hn:tC rows){n:Nat}(h:n<=rows.length):(iQ labs rows part n).2=(fA rows part n).2∧(iQ labs rows part n).1.length=(fA rows part n).1.length:=by
 obtain⟨ds,_,O,H⟩:=Tx (f:=λs=>du part (part.getD s 0) (rows.getD s [])) (g:=jM labs rows part) (n:=rows.length) (λi j hi q=>QQ u A hn hi q) n h
 grind[Un,iQ]
def rh(labs:B0)(rows:N3):Nat->Do->Nat->Bool->Do
 |0,part,_,_=>part
 |f+1,part,many,first=>if(iQ labs rows part rows.length).1.length=many∧first=false then(iQ labs rows part rows.length).2 else rh labs rows f (iQ labs rows part rows.length).2 (iQ labs rows part rows.length).1.length false
theorem Gd{labs:B0}{rows:N3}(A:∀r∈rows,l8 (r.map Prod.fst))(H:∀r∈rows,∀l∈r.map Prod.fst,l∈labs)(hn:tC rows):∀(f:Nat){part:Do}{many:Nat},XF rows part many->rows.length+1<=f+many->rh labs rows f part many false=qS rows (f+1) part many
 |0,part,many,u,O=>by
  have:=oC rows u
  grind[pW]
 |f+1,part,many,u,O=>by
  obtain⟨V,U⟩:=tW A H hn (part:=part) (Nat.le_refl _);rw[rh,qS,V,U]
  by_cases h:gT rows part=many
  ·rw[if_pos h,if_pos ⟨h,rfl⟩];rfl
  ·rw[if_neg h,if_neg (λq=>h q.1)]
   have:=oC rows u
   exact Gd A H hn f (pX rows part) (by grind[gT,part])
theorem MS{labs:B0}{rows:N3}{ends:N2}(A:∀r∈rows,l8 (r.map Prod.fst))(H:∀r∈rows,∀l∈r.map Prod.fst,l∈labs)(hn:tC rows)(O:0<rows.length):rh labs rows (rows.length+1) (p0 ends) 1 true=b9 rows ends:=by
 obtain⟨V,U⟩:=tW A H hn (part:=p0 ends) (Nat.le_refl _);have u:0<gT rows (p0 ends):=Nat.lt_of_le_of_lt (aen _) (lQ rows (part:=p0 ends) O);rw[rh,if_neg (λq=>by cases q.2),b9,qS,if_neg zd,V,U];exact Gd A H hn rows.length (pX rows (p0 ends)) (by grind[gT,p0])
theorem qC{σ:Type}(f:σ->Option Nat->σ)(u:∀s,f s none=s):∀{labs:B0}{row:bD}(s:σ),labs.Nodup->(row.map Prod.fst).Sublist labs->labs.foldl (λs l=>f s (look row l)) s=row.foldl (λs p=>f s (some p.2)) s
 | [],row,s,_,h=>by
  simp_all
 |l::labs,row,s,hn,h=>by
  rw[List.nodup_cons]at hn;rw[afD]
  cases row with
  |nil=>
   show labs.foldl _ (f s none)=_;rw[u];exact qC f u (row:=[]) s hn.2 zk
  |cons e row=>
   rw[afZ]at h
   by_cases hl:l=e.1
   ·subst hl
    have A:(row.map Prod.fst).Sublist labs:=by simpa using h
    have O:look (e::row) e.1=some e.2:=by rw[look,List.find?_cons,nj.2 rfl];rfl
    rw[O,afD, <- qC f u (f s (some e.2)) hn.2 A]
    have:∀(ls:B0),(∀m∈ls,m∈labs)->∀s,ls.foldl (λs l=>f s (look (e::row) l)) s=ls.foldl (λs l=>f s (look row l)) s:=λls=>by
     induction ls with
     |nil=>grind
     |cons m ls ih=>
      grind[List.mem_cons_self,look,fR,absurd,nj,aeX]
    grind
   ·have A:((e::row).map Prod.fst).Sublist labs:=by
     grind
    have H:look (e::row) l=none:=lx.2 λq=>hn.1 (A.subset q);rw[H,u];exact qC f u s hn.2 A
def DI(part:Do)(order:Do)(o:Option Nat):Do:=match o with
 |none=>order
 |some t=>match kY part order (part.getD t 0)with
  |some _=>order
  |none=>order++[t]
theorem Q3{part:Do}:∀(row:bD)(order:Do),row.foldl (λo p=>DI part o (some p.2)) order=(fX part order row).1:=by
 refine ij (λorder=>rfl) ?_
 grind[nc,DI,KM,kY,part,fX]
theorem UI{labs:B0}{row:bD}(part order:Do)(hn:labs.Nodup)(h:(row.map Prod.fst).Sublist labs):labs.foldl (λo l=>DI part o (look row l)) order=(fX part order row).1:=by
 rw[qC (DI part) (λ_=>rfl) order hn h,Q3]
theorem UC{part order:Do}(hn:(order.map (λs=>part.getD s 0)).Nodup){k:Nat}(u:k<order.length){x:Nat}(h:part.getD (order.getD k 0) 0=x):kY part order x=some k:=by
 rw[kY,afj]
 have q:k<(order.map (λs=>part.getD s 0)).length:=by grind
 have e:(order.map (λs=>part.getD s 0))[k]=x:=by
  grind
 refine⟨q,by grind,λj A=>?_⟩;rw[Bool.not_eq_true,beq_eq_false_iff_ne]
 grind[List.pairwise_iff_getElem]
theorem Nv{labs:B0}{rows:N3}{ends:N2}{part:Do}{st:B7}(U:Lk rows part st)(O:QW rows ends part st){k:Nat}(V:k<st.rows.length):iU labs (st.rows.getD k [])=(iU labs (rows.getD (st.order.getD k 0) [])).map (λt=>if t<0 then -1 else match kY part st.order (part.getD t.toNat 0)with
  |some j=>(j:Int)
  |none=> -1):=by
 rw[iU,iU,List.map_map];refine List.map_congr_left λl _=>?_;obtain⟨Y,W⟩:=O.row k V l;rw[Function.comp]
 cases q:look (rows.getD (st.order.getD k 0) []) l with
 |none=>grind
 |some t=>
  obtain⟨j,H,A,u⟩:=W t q;rw[H];simp only[show ¬((t:Int)<0) by omega,if_false,Int.toNat_natCast,UC U.nd A u]
theorem Po(l:M2){i:Nat}(h:i<l.length):(l.map encI).getD i []=[.v (.int .i64 l[i])]:=by
 rw[aeS,aeu,aes h];rfl
@[go_sem] theorem RZ(n:Nat)(l:M2):bE n (l.map encI)=true:=bt _ (λ_=>rfl) _
theorem Rb(a b:M2)(ha:a.length<=1000000)(hb:b.length<=1000000):aj prog 178 [.aA 1 (a.map encI) a.length,.aA 1 (b.map encI) b.length] (.v (.bool (decide (a=b)))):=by
 generalize u:decide (a=b)=rv;refine gE func178 ntmps178 results178 ?_
 (refine bc ?_;intro K hK)
 refine aZ (ι:=Nat) 6 (λi=>[(5,.v (.int .i64 i))]) (λi=>a.length-i) (λi=>i<=a.length∧i<=b.length∧a.take i=b.take i) 0 ⟨aen _,aen _,zk⟩ ?_ ?_
 ·refine ab (bF ?_) ar ar
  all_goals rfl
 ·rintro i ⟨h1,h2,U⟩ K hK;have eW:=ae (k:=i) zd
  have out:(i<a.length-> ¬i<b.length)->((a.length:Int)==(b.length:Int))=rv:=λW=>by
   rw[<-u,Bool.eq_iff_iff,beq_iff_eq,decide_eq_true_eq];refine⟨λe=>?_,λe=>by rw[e]⟩
   have e':a.length=b.length:=zd
   have hi:i=a.length:=by
    rcases Nat.lt_or_ge i a.length with q|q
    ·exact absurd zd (W q)
    ·omega
   rw[hi,List.take_length,e',List.take_length]at U;exact U
  by_cases d1:i<a.length
  ·have A:decide ((i:Int)<(a.length:Int))=true:=b0
   by_cases d2:i<b.length
   ·have V:decide ((i:Int)<(b.length:Int))=true:=b0;have gA:=Po a d1;have gB:=Po b d2
    repeat(first|(with_reducible first|refine bA.up ?_|refineλ(K:AK)hK=>?_|refine wD ?_|(refine hK _ ?_;clear hK K))|simp only[go_sem,A,V,gA,gB,Go.undef]|with_reducible refine wA ?_|clear hK K)
    refine cn.part (λg=>?_) (λg=>?_)
    ·have O:a[i]≠b[i]:=by replace g:=cq g;exact g
     have:rv=false:=by
      rw[<-u,decide_eq_false_iff_not];intro e;subst e;exact O rfl
     ((iterate 3 revert K);refine bc ?_)
     rw[this]
    ·have Y:a[i]=b[i]:=by replace g:=cq g;exact g
     ((iterate 3 revert K);refine aG eW ?_)
     exact aw.mk (i+1) ⟨d1,d2,by rw[agD d1,agD d2,U,Y]⟩ zd (by exact ab ar ar ar)
   ·have V:decide ((i:Int)<(b.length:Int))=false:=bi;have H:=out λ_=>d2
    (revert K;revert K;refine cw (q9 A V) ?_)
    rw[H]
  ·have A:decide ((i:Int)<(a.length:Int))=false:=bi;have H:=out λq=>absurd q d1
   (revert K;revert K;refine cw A ?_)
   rw[H]
def fq(L:List M2):List C5:=L.map (λl=>[AV.aA 1 (l.map encI) l.length])
theorem gM(L:List M2):(fq L).length=L.length:=by simp[fq]
theorem sW(L:List M2){i:Nat}(h:i<L.length):(fq L).getD i []=[.aA 1 (L[i].map encI) L[i].length]:=by
 rw[aeS,fq,aeu,aes h];rfl
@[go_sem] theorem oT(n:Nat)(L:List M2):bE n (fq L)=true:=bt _ (λl=>by simp only[aQ,AV.wf,RZ,agp]) _
def Wd(L:List M2)(s:M2):Int:=match L.findIdx? (λy=>decide (s=y))with
 |some k=>(k:Int)
 |none=> -1
theorem On(L:List M2)(s:M2)(hL:L.length<=1000000)(hl:∀l∈L,l.length<=1000000)(Y:s.length<=1000000):aj prog 141 [.aA 1 (fq L) L.length,.aA 1 (s.map encI) s.length] (.v (.int .i64 (Wd L s))):=by
 generalize A:Wd L s=rv;refine gE func141 ntmps141 results141 ?_
 (refine ag ?_;intro K hK)
 refine aZ (ι:=Nat) 6 (λi=>[(5,.v (.int .i64 i))]) (λi=>L.length-i) (λi=>i<=L.length∧∀(j:Nat)(h:j<L.length),j<i->L[j]≠s) 0 ⟨aen _,λj _ h=>absurd h (Nat.not_lt_zero _)⟩ ?_ ?_
 ·refine ab (bF ?_) ar ar
  all_goals rfl
 ·rintro i ⟨h1,V⟩ K hK;have eW:=ae (k:=i) zd
  (revert K;revert K;refine ag ?_;intro K hK K hK K hK)
  refine cn.part (λg=>?_) (λg=>?_)
  ·have u:i<L.length:=by replace g:=qv g;omega
   have eG:=sW L u;have C:=Rb L[i] s (hl _ (afm u)) Y
   ((iterate 3 revert K);refine ak (mQ g eG @gM) ?_;iterate 5 intro K hK)
   refine ah.one C ?_
   by_cases O:L[i]=s
   ·have W:decide (L[i]=s)=true:=decide_eq_true O
    have:(i:Int)=rv:=by
     rw[<-A,Wd]
     have:L.findIdx? (λy=>decide (s=y))=some i:=by
      rw[afj];exact⟨u,decide_eq_true O.symm,λj H=>by simpa usingλq=>V j zd H q.symm⟩
     rw[this]
    ((iterate 5 revert K);refine ak W ?_)
    rw[this]
   ·have W:decide (L[i]=s)=false:=decide_eq_false O
    ((iterate 5 revert K);refine fb W eW ?_)
    refine aw.mk (i+1) ⟨u,λj H U=>?_⟩ zd (by exact ab ar ar ar)
    rcases Nat.lt_succ_iff_lt_or_eq.1 U with q|rfl
    ·exact V j H q
    ·exact O
  ·have hin:i=L.length:=by replace g:=qv g;omega
   have:rv = -1:=by
    rw[<-A,Wd]
    have:L.findIdx? (λy=>decide (s=y))=none:=by
     rw[List.findIdx?_eq_none_iff];intro y hy;obtain⟨j,H,rfl⟩:=List.getElem_of_mem hy;exact decide_eq_false λq=>V j H zd q.symm
    rw[this]
   ((iterate 3 revert K);refine ag ?_)
   rw[this]
theorem oU{n:Nat}{a b:AC}:∀{l:AC},(∀ob,some ob∈l->bE n ob.rows=true)->zU n a b->zU n (l++a) (l++b)
 | [],_,h=>h
 |x::l,hl,h=>⟨.inr ⟨rfl,λob e=>hl ob (by rw[e];simp)⟩,oU (λob q=>hl ob (List.mem_cons_of_mem _ q)) h⟩
theorem qh(n N:Nat)(f:GT):∀(m:Nat)ob,some ob∈bB N f m->bE n ob.rows=true
 |0,ob,h=>by cases h
 |m+1,ob,h=>by
  rw[gh,List.mem_append]at h
  rcases h with h|h
  ·exact qh n N f m ob h
  ·simp only[List.mem_cons,List.not_mem_nil,or_false,reduceCtorEq]at h;rw[ma]at h;cases h;exact bp _ _ _
theorem GQ{n k N m:Nat}{f:GT}(h:k+2*m<=n):zU n (cA k N m f) (cA k N m f):=by
 have:=oU (n:=n) (a:=[]) (b:=[]) (l:=cA k N m f) (λob q=>by
  rw[cA,List.mem_cons]at q
  rcases q with e|q
  ·cases e;exact l6 h
  ·exact qh _ _ _ _ _ q) trivial
 simpa using this
theorem Ab(N m:Nat):bw 0 N (m+1)=bw 0 N m++[[.vec (2*m+1) N]]:=by
 rw[fy,show nf 0 m=2*m+1 by unfold nf;omega]
theorem IC{N m:Nat}{f:GT}{a b:Option aa}:(bB N f m++[a,b])[2*m+1]?=some b:=by
 rw[List.getElem?_append_right (by rw[ai];omega),ai,show 2*m+1-2*m=1 by omega];rfl
theorem FN(n:Nat)(hn:n<=1000):bT prog 229 [.v (.int .i64 n)] [] (.vec 0 (n+1)) (cA 0 (n+1) (n+1) (λ_ _=>false)):=by
 have eN:=ae (k:=n) zd;refine gF func229 ntmps229 results229 ?_
 (refine ag ?_;intro K hK)
 refine fN (ι:=Nat) 3 121 1 rfl zs 5 (λi=>[(3,.vec 0 i),(4,.v (.int .i64 i))]) (λi=>cA 0 (n+1) i (λ_ _=>false)) (λi=>n+1-i) (λi=>i<=n+1) 0 zd ?_ ?_
 ·refine ab (bF ?_) (bF ?_) (bF ?_)
  ·exact⟨rfl,rfl⟩
  ·exact GQ (by simp[cA])
  ·exact aen _
 ·intro i hi K hK;simp only[cA]
  (revert K;revert K;refine ag ?_;intro K hK K hK K hK)
  refine cn.part (λh=>?_) (λh=>?_)
  ·have eW:=ae (k:=i) (by replace h:=cq h;omega);have eL:([AV.v (.bool false)]::List.replicate n [AV.v (.bool false)])=dK (n+1) (λ_=>false):=lz (n+1)
   ((iterate 3 revert K);refine ak (qu eN eW eL @ai @IC) ?_)
   refine aw.mk (i+1) (by replace h:=cq h;omega) (by replace h:=cq h;omega) (ab ?_ ?_ ?_)
   ·simp only[cA,ai,ae0];simp only[go_sem,iT,true_or,or_true,true_and,and_true];exact .inr (b0)
   ·show zU (cA 0 (n+1) (i+1) (λ_ _=>false)).length _ (cA 0 (n+1) (i+1) (λ_ _=>false));generalize A:(cA 0 (n+1) (i+1) (λ_ _=>false)).length=z
    have u:z=2*(i+1)+1:=by rw[<-A,cA,ae0,ai]
    have q:bE z (bw 0 (n+1) (i+1))=true:=l6 zd;simp only[cA,gh];refine⟨.inr ⟨by rw[Ab],λob e=>by cases e;exact q⟩,oU (λob h=>qh _ _ _ _ _ h) ⟨.inr ⟨rfl,λob e=>by cases e;exact bp _ _ _⟩,.inl rfl,trivial⟩⟩
   ·exact aen _
  ·have H:i=n+1:=by replace h:=cq h;omega
   simp only[H]
   ((iterate 3 revert K);refine ag ?_)
   refine⟨?_,?_,aen _⟩
   ·exact⟨.inr ⟨rfl,decide_eq_true (by simp[cA])⟩,trivial⟩
   ·exact GQ (by simp[cA,ai])
theorem mq(f:Nat->Nat)(N:Nat)(g:Nat->Bool):cm f (dK N g)=dK N g:=bj f _ (bp 0 N g)
theorem vo(f:Nat->Nat):∀(a:List C5)(b:C5),cm f (a++[b])=cm f a++[bW f b]
 | [],b=>rfl
 |x::a,b=>by rw[afz,cm,vo f a b];rfl
theorem wh(k N:Nat):∀m,cm (sig [] k) (bw 0 N m)=bw k N m
 |0=>rfl
 |m+1=>by
  rw[fy,fy,vo,wh k N m];simp only[cm,bW,AV.bb,sig,aeg,Nat.not_lt_zero,if_false,nf];rw[show k+(0+1+2*m-0)=k+1+2*m by omega]
theorem QX(k N:Nat)(f:GT):∀m,(cA 0 N m f).map (Option.map (aa.bb (sig [] k)))=cA k N m f:=λm=>by
 have h:∀m,(bB N f m).map (Option.map (aa.bb (sig [] k)))=bB N f m:=λm=>by
  induction m with
  |zero=>rfl
  |succ m ih=>rw[gh,List.map_append,ih];simp only[List.map_cons,List.map_nil,ma,Option.map_some,Option.map_none,aa.bb,mq]
 rw[cA,List.map_cons,h,Option.map_some,aa.bb,cA];simp only[wh]
theorem ah.Ds{n:Nat}{o:AC}{K:AV->AC->Prop}(hn:n<=1000)(k:K (.vec o.length (n+1)) (o++cA o.length (n+1) (n+1) (λ_ _=>false))):ah prog 229 [.v (.int .i64 n)] o K:=by
 refine ah.fr [] (FN n hn) List.nodup_nil rfl rfl rfl (λk ob h=>by simp at h) ?_;have q:(AV.vec 0 (n+1)).bb (sig [] o.length)=.vec o.length (n+1):=rfl;rw[q,fj,QX];exact k
theorem jh(k N m:Nat)(f:GT):(cA k N m f).length=2*m+1:=by rw[cA,ae0,ai]
theorem sn{t q:C5}{y:kB}{N m:Nat}{f:GT}(h:iT (2*m+1) t q):Wk 0 ⟨t,some ⟨121,1,true,bw 0 N m⟩ ::bB N f m,y⟩ ⟨q,cA 0 N m f,y⟩:=
 ab (by rw[jh];exact h) (by rw[jh];exact GQ zd) (aen _)
def YW(i j:Nat):Bool:=decide (i=j)
def wy(i p q:Nat):Bool:=decide (p=q)&&decide (p<i)
theorem L0(i:Nat):oP (wy i) i i true=wy (i+1):=by
 funext p q
 rw[oP,wy,wy]
 split
 ·rename_i h;obtain⟨rfl,rfl⟩:=h;simp
 ·rename_i h
  by_cases u:p=q
  ·have:(p<i↔p<i+1):=zd
   simp[u, <- this];omega
  ·simp[u]
theorem vz(n:Nat)(hn:n<=1000):aj prog 230 [.v (.int .i64 n)] (.aA 1 (mH (n+1) YW) (n+1)):=by
 have A:decide (0<2*(n+1)+1)=true:=b0;refine mI.to1 ?_
 (refine mI.enter func230 rfl zo zo rfl (by simp only[go_sem,aQ,AV.wf,agp,afe,afi,Go.undef]) (by simp only[go_sem,aQ,AV.wf,bz,agp,afe,afi,Go.undef]) ?_;simp only[ntmps230,results230,ae0,aeg,Nat.reduceAdd,Nat.reduceSub,afJ,afK,afz,afy])
 (refine ag ?_;intro K hK K hK)
 refine ah.Ds hn ?_;simp only[aeg,afy]
 (revert K;revert K;refine ag ?_;intro K hK)
 refine aN (ι:=Nat) 7 (λi=>[(4,.v (.int .i64 i))]) (λi=>cA 0 (n+1) (n+1) (wy i)) (λi=>n+1-i) (λi=>i<=n+1) 0 zd ?_ ?_
 ·have e0:(λ_ _=>false)=wy 0:=by funext p q;simp[wy]
  rw[e0];refine sn ?_;simp only[go_sem,iT,true_or,or_true,true_and,and_true,A];exact .inr rfl
 ·intro i hi K hK;simp only[cA]
  (revert K;revert K;refine ag ?_;intro K hK K hK K hK)
  refine cn.part (λh=>?_) (λh=>?_)
  ·have u:i<n+1:=by replace h:=gH2 h;omega
   have eW:=ae (k:=i) (by replace h:=gH2 h;omega);have eO:=lM (k:=0) (N:=n+1) u;have O:∀x,(x::bB (n+1) (wy i) (n+1))[nf 0 i]? = _:=λx=>mU (k:=0) (x:=x) u;have eR:=dR (g:=wy i i) u;have eS:=λx=>pT (N:=n+1) (j:=i) (f:=wy i) (v:=true) (x:=x) u
   repeat(first|(with_reducible first|refine bA.up ?_|refineλ(K:AK)hK=>?_|(refine hK _ ?_;clear hK K))|simp only[go_sem,eW,eO,O,ma,eR,eS,L0]|with_reducible refine wA ?_|clear hK K)
   refine aw.mk (i+1) zd zd (sn ?_);simp only[go_sem,iT,true_or,or_true,true_and,and_true,A]
  ·have U:i=n+1:=by replace h:=gH2 h;omega
   have eA:bB (n+1) (wy (n+1)) (n+1)=bB (n+1) YW (n+1):=gP λp q H _=>by simp[wy,YW,H]
   simp only[U]
   ((iterate 3 revert K);refine ag ?_)
   rw[eA];exact tv _ _
def WK(a b:GT)(i j:Nat):Bool:=decide (i<=j)&&(a i j||b i j)
def mG(a b:GT)(i j p q:Nat):Bool:=decide (p<i∨(p=i∧q<j))&&WK a b p q
theorem MO{a b:GT}{i j:Nat}(h:i<=j):oP (mG a b i j) i j (a i j||b i j)=mG a b i (j+1):=by
 funext p q
 rw[oP,mG,mG]
 split
 ·rename_i e;obtain⟨rfl,rfl⟩:=e;simp[WK,h]
 ·rename_i e
  congr 1
  rw[decide_eq_decide];omega
theorem Qn{a b:GT}{i:Nat}:mG a b i i=mG a b i 0:=by
 funext p q
 rw[mG,mG,af7];simp only[WK,aeW,decide_eq_true_eq]
 constructor
 ·rintro⟨H,A,u⟩;exact⟨zd,A,u⟩
 ·rintro⟨H,A,u⟩;exact⟨zd,A,u⟩
theorem MN{a b:GT}{N i:Nat}:bB N (mG a b i N) N=bB N (mG a b (i+1) 0) N:=gP λp q A u=>by
 rw[mG,mG];congr 1;rw[decide_eq_decide];omega
theorem rJ(n:Nat)(a b:GT)(hn:n<=1000):aj prog 232 [.aA 1 (mH (n+1) a) (n+1),.aA 1 (mH (n+1) b) (n+1)] (.aA 1 (mH (n+1) (WK a b)) (n+1)):=by
 have H:decide (0<2*(n+1)+1)=true:=b0
 have eN:IntKind.i64.wrap (((n+1:Nat):Int)-1)=(n:Int):=by rw[bS zd zd];omega
 refine mI.to1 ?_
 (refine mI.enter func232 rfl zo zo rfl (by simp only[go_sem,aQ,AV.wf,agp,afe,afi,Go.undef]) (by simp only[go_sem,aQ,AV.wf,bz,agp,afe,afi,Go.undef]) ?_;simp only[ntmps232,results232,ae0,aeg,Nat.reduceAdd,Nat.reduceSub,afJ,afK,afz,afy])
 (refine aG eN ?_;intro K hK K hK)
 refine ah.Ds hn ?_;simp only[aeg,afy]
 (revert K;revert K;refine bc ?_;intro K hK)
 refine aN (ι:=Nat) 12 (λi=>[(6,.v (.int .i64 i)),(7,.undef)]) (λi=>cA 0 (n+1) (n+1) (mG a b i 0)) (λi=>n+1-i) (λi=>i<=n+1) 0 zd ?_ ?_
 ·have e0:(λ_ _=>false)=mG a b 0 0:=by funext p q;simp[mG]
  rw[e0];refine sn ?_;simp only[go_sem,iT,true_or,or_true,true_and,and_true,H];exact .inr rfl
 ·intro i hi K hK;simp only[cA]
  (revert K;revert K;refine bc ?_;intro K hK K hK K hK)
  refine cn.part (λh=>?_) (λh=>?_)
  ·have u:i<n+1:=by replace h:=qv h;omega
   have eW:=ae (k:=i) zd;have eO:=lM (k:=0) (N:=n+1) u;have eA:=vc (f:=a) u;have eB:=vc (f:=b) u
   ((iterate 3 revert K);refine bc ?_;intro K hK K hK K hK)
   refine aN (ι:=Nat) 19 (λj=>[(7,.v (.int .i64 j))]) (λj=>cA 0 (n+1) (n+1) (mG a b i j)) (λj=>n+1-j) (λj=>i<=j∧j<=n+1) i zd ?_ ?_
   ·rw[Qn];refine sn ?_;simp only[go_sem,iT,true_or,or_true,true_and,and_true,H]
   ·rintro j ⟨W,hj2⟩ K hK;simp only[cA]
    ((iterate 4 revert K);refine bc ?_;iterate 5 intro K hK)
    refine cn.part (λh=>?_) (λh=>?_)
    ·have A:j<n+1:=by replace h:=qv h;omega
     have eV:=ae (k:=j) zd;have U:=dR (g:=a i) A;have O:=dR (g:=b i) A;have hO:∀x,(x::bB (n+1) (mG a b i j) (n+1))[nf 0 i]? = _:=λx=>mU (k:=0) (x:=x) u;have eR:=dR (g:=mG a b i j i) A;have eS:=λx v=>pT (N:=n+1) (j:=j) (f:=mG a b i j) (v:=v) (x:=x) u;have eU:=MO (a:=a) (b:=b) W
     cases V:a i j
     ·rw[V,Bool.false_or]at eU
      repeat(first|(with_reducible first|refine bA.up ?_|refineλ(K:AK)hK=>?_|refine wE ?_|refine wK ?_|refine wF ?_|(refine hK _ ?_;clear hK K))|simp only[go_sem,eV,eO,eA,eB,U,O,V,hO,ma,eR,eS,eU,Go.undef]|with_reducible refine wA ?_|clear hK K)
      refine aw.mk (j+1) ⟨zd,zd⟩ zd (sn ?_);simp only[go_sem,iT,true_or,or_true,true_and,and_true,H,gJ,AV.wf]
     ·rw[V,Bool.true_or]at eU
      repeat(first|(with_reducible first|refine bA.up ?_|refineλ(K:AK)hK=>?_|refine wE ?_|refine wK ?_|refine wF ?_|(refine hK _ ?_;clear hK K))|simp only[go_sem,eV,eO,eA,eB,U,O,V,hO,ma,eR,eS,eU,Go.undef]|with_reducible refine wA ?_|clear hK K)
      refine aw.mk (j+1) ⟨zd,zd⟩ zd (sn ?_);simp only[go_sem,iT,true_or,or_true,true_and,and_true,H,gJ,AV.wf]
    ·have Y:j=n+1:=by replace h:=qv h;omega
     simp only[Y,MN]
     ((iterate 5 revert K);refine aG eW ?_)
     refine aw.mk (i+1) zd zd (sn ?_);simp only[go_sem,iT,true_or,or_true,true_and,and_true,H,gJ,AV.wf]
  ·have Y:i=n+1:=by replace h:=qv h;omega
   have eA:bB (n+1) (mG a b (n+1) 0) (n+1)=bB (n+1) (WK a b) (n+1):=gP λp q hp _=>by simp[mG,hp]
   simp only[Y]
   ((iterate 3 revert K);refine bc ?_)
   rw[eA];exact tv _ _
def BN(N:Nat)(a b:GT)(i j:Nat):Bool:=(List.range N).any λk=>decide (i<=k∧k<=j)&&(a i k&&b k j)
theorem Nu{N:Nat}{a b:GT}{i j:Nat}:BN N a b i j=true ↔ ∃k,k<N∧i<=k∧k<=j∧a i k=true∧b k j=true:=by
 simp only[BN,List.any_eq_true,List.mem_range,aeW,decide_eq_true_eq,and_assoc]
def mb(N:Nat)(a b:GT)(i k j p q:Nat):Bool:=
 if p<i then BN N a b p q else if p=i then(List.range k).any (λk'=>decide (i<=k'∧k'<=q)&&(a i k'&&b k' q))||(decide (k<=q∧q<j)&&(a i k&&b k q))else false
theorem Nt{N:Nat}{a b:GT}{i k j:Nat}(h:k<=j)(H:a i k=true):oP (mb N a b i k j) i j (mb N a b i k j i j||b k j)=mb N a b i k (j+1):=by
 funext p q
 rw[oP]
 split
 ·rename_i e;obtain⟨rfl,rfl⟩:=e;simp only[mb,if_neg (Nat.lt_irrefl _),if_true,H,afi];have A:decide (k<=q∧q<q)=false:=bi;have u:decide (k<=q∧q<q+1)=true:=b0;rw[A,u];simp
 ·rename_i e;simp only[mb]
  split
  ·rfl
  ·split
   ·rename_i A u;subst u
    congr 2
    rw[decide_eq_decide]
    have:q≠j:=λO=>e ⟨rfl,O⟩
    omega
   ·rfl
theorem Xm{N:Nat}{a b:GT}{i k:Nat}(hi:i<=k)(O:a i k=false∨True):bB N (mb N a b i k (if a i k then N else k)) N=bB N (mb N a b i (k+1) (k+1)) N:=gP λp q H A=>by
 simp only[mb]
 split
 ·rfl
 ·split
  ·rw[List.range_succ,List.any_append,Bool.or_assoc]
   congr 1
   have u:decide (k+1<=q∧q<k+1)=false:=bi;rw[u];simp only[List.any_cons,List.any_nil,Bool.or_false,Bool.false_and]
   cases U:a i k
   ·simp
   ·have:(k<=q∧q<N)=(i<=k∧k<=q):=by apply propext;omega
    simp[this]
  ·rfl
theorem RF{N:Nat}{a b:GT}{i:Nat}:bB N (mb N a b i N N) N=bB N (mb N a b (i+1) (i+1) (i+1)) N:=gP λp q hp hq=>by
 simp only[mb]
 by_cases O:p<i
 ·rw[if_pos O,if_pos zd]
 ·rw[if_neg O]
  by_cases H:p=i
  ·subst H;rw[if_pos rfl,if_pos zd];have Y:decide (N<=q∧q<N)=false:=bi;rw[Y,Bool.false_and,Bool.or_false];rfl
  ·rw[if_neg H,if_neg zd]
   by_cases A:p=i+1
   ·rw[if_pos A]
    have W:(List.range (i+1)).any (λu=>decide (i+1<=u∧u<=q)&&(a (i+1) u&&b u q))=false:=by
     rw[List.any_eq_false];intro x hx
     have:=List.mem_range.1 hx
     have V:decide (i+1<=x∧x<=q)=false:=bi;rw[V];simp
    have U:decide (i+1<=q∧q<i+1)=false:=bi;rw[W,U];simp
   ·rw[if_neg A]
theorem Xl{N:Nat}{a b:GT}:(λ_ _=>false)=mb N a b 0 0 0:=by
 funext p q
 simp[mb]
theorem rR(n:Nat)(a b:GT)(hn:n<=1000):aj prog 231 [.aA 1 (mH (n+1) a) (n+1),.aA 1 (mH (n+1) b) (n+1)] (.aA 1 (mH (n+1) (BN (n+1) a b)) (n+1)):=by
 have O:decide (0<2*(n+1)+1)=true:=b0
 have eN:IntKind.i64.wrap (((n+1:Nat):Int)-1)=(n:Int):=by rw[bS zd zd];omega
 refine mI.to1 ?_
 (refine mI.enter func231 rfl zo zo rfl (by simp only[go_sem,aQ,AV.wf,agp,afe,afi,Go.undef]) (by simp only[go_sem,aQ,AV.wf,bz,agp,afe,afi,Go.undef]) ?_;simp only[ntmps231,results231,ae0,aeg,Nat.reduceAdd,Nat.reduceSub,afJ,afK,afz,afy])
 (refine aG eN ?_;intro K hK K hK)
 refine ah.Ds hn ?_;simp only[aeg,afy]
 (revert K;revert K;refine bc ?_;intro K hK)
 refine aN (ι:=Nat) 13 (λi=>[(6,.v (.int .i64 i)),(7,.undef),(8,.undef)]) (λi=>cA 0 (n+1) (n+1) (mb (n+1) a b i i i)) (λi=>n+1-i) (λi=>i<=n+1) 0 zd ?_ ?_
 ·rw[Xl (N:=n+1) (a:=a) (b:=b)];refine sn ?_;simp only[go_sem,iT,true_or,or_true,true_and,and_true,O];exact .inr rfl
 ·intro i hi K hK;simp only[cA]
  (revert K;revert K;refine bc ?_;intro K hK K hK K hK)
  refine cn.part (λh=>?_) (λh=>?_)
  ·have A:i<n+1:=by replace h:=qv h;omega
   have eW:=ae (k:=i) zd;have eO:=lM (k:=0) (N:=n+1) A;have eA:=vc (f:=a) A
   ((iterate 3 revert K);refine bc ?_;intro K hK K hK K hK)
   refine aN (ι:=Nat) 20 (λk=>[(7,.v (.int .i64 k)),(8,.undef)]) (λk=>cA 0 (n+1) (n+1) (mb (n+1) a b i k k)) (λk=>n+1-k) (λk=>i<=k∧k<=n+1) i zd ?_ ?_
   ·refine sn ?_;simp only[go_sem,iT,true_or,or_true,true_and,and_true,O]
   ·rintro k ⟨hk1,hk2⟩ K hK;simp only[cA]
    ((iterate 4 revert K);refine bc ?_;iterate 5 intro K hK)
    refine cn.part (λh=>?_) (λh=>?_)
    ·have V:k<n+1:=by replace h:=qv h;omega
     have eV:=ae (k:=k) zd;have H:=dR (g:=a i) V;have eB:=vc (f:=b) V;have eK:=Xm (N:=n+1) (a:=a) (b:=b) hk1 (.inr trivial)
     ((iterate 5 revert K);refine bc ?_;iterate 5 intro K hK)
     refine aN (ι:=Nat) 27 (λj=>[(8,.v (.int .i64 j))]) (λj=>cA 0 (n+1) (n+1) (mb (n+1) a b i k j)) (λj=>n+1-j) (λj=>k<=j∧j<=n+1∧(a i k=false->j=k)) k ⟨zd,zd,λ_=>rfl⟩ ?_ ?_
     ·refine sn ?_;simp only[go_sem,iT,true_or,or_true,true_and,and_true,O]
     ·rintro j ⟨hj1,hj2,hj3⟩ K hK;simp only[cA]
      cases U:a i k
      ·have u:=hj3 U;rw[U]at eK;simp only[Bool.false_eq_true,if_false]at eK
       ((iterate 6 revert K);refine cw (mQ eA H U) ?_)
       simp only[u,eK];refine aG eV ?_;refine aw.mk (k+1) ⟨zd,zd⟩ zd (sn ?_);simp only[go_sem,iT,true_or,or_true,true_and,and_true,O,gJ,AV.wf]
      ·rw[U]at eK;simp only[if_true]at eK
       rcases Bool.eq_false_or_eq_true (decide ((j:Int)<((n+1:Nat):Int)))with u|u
       ·have W:j<n+1:=by replace u:=qv u;omega
        have eJ:=ae (k:=j) zd;have Y:=dR (g:=b k) W;have hO:∀x,(x::bB (n+1) (mb (n+1) a b i k j) (n+1))[nf 0 i]? = _:=λx=>mU (k:=0) (x:=x) A;have eR:=dR (g:=mb (n+1) a b i k j i) W;have eS:=λx v=>pT (N:=n+1) (j:=j) (f:=mb (n+1) a b i k j) (v:=v) (x:=x) A;have eU:=Nt (N:=n+1) (b:=b) hj1 U
        cases hv:mb (n+1) a b i k j i j
        ·rw[hv,Bool.false_or]at eU
         repeat(first|(with_reducible first|refine bA.up ?_|refineλ(K:AK)hK=>?_|refine wE ?_|refine wK ?_|refine wF ?_|(refine hK _ ?_;clear hK K))|simp only[go_sem,eJ,eA,H,U,u,eO,eB,Y,hO,hv,ma,eR,eS,eU,Go.undef]|with_reducible refine wA ?_|clear hK K)
         refine aw.mk (j+1) ⟨zd,zd⟩ zd (sn ?_);simp only[go_sem,iT,true_or,or_true,true_and,and_true,O,gJ,AV.wf]
        ·rw[hv,Bool.true_or]at eU
         repeat(first|(with_reducible first|refine bA.up ?_|refineλ(K:AK)hK=>?_|refine wE ?_|refine wK ?_|refine wF ?_|(refine hK _ ?_;clear hK K))|simp only[go_sem,eJ,eA,H,U,u,eO,eB,Y,hO,hv,ma,eR,eS,eU,Go.undef]|with_reducible refine wA ?_|clear hK K)
         refine aw.mk (j+1) ⟨zd,zd⟩ zd (sn ?_);simp only[go_sem,iT,true_or,or_true,true_and,and_true,O,gJ,AV.wf]
       ·have hje:j=n+1:=by replace u:=qv u;omega
        ((iterate 6 revert K);refine cw (pt eA H U u) ?_)
        simp only[hje,eK];refine aG eV ?_;refine aw.mk (k+1) ⟨zd,zd⟩ zd (sn ?_);simp only[go_sem,iT,true_or,or_true,true_and,and_true,O,gJ,AV.wf]
    ·have e1:k=n+1:=by replace h:=qv h;omega
     simp only[e1,RF]
     ((iterate 5 revert K);refine aG eW ?_)
     refine aw.mk (i+1) zd zd (sn ?_);simp only[go_sem,iT,true_or,or_true,true_and,and_true,O,gJ,AV.wf]
  ·have e1:i=n+1:=by replace h:=qv h;omega
   have eA:bB (n+1) (mb (n+1) a b (n+1) (n+1) (n+1)) (n+1)=bB (n+1) (BN (n+1) a b) (n+1):=gP λp q hp _=>by simp[mb,hp]
   simp only[e1]
   ((iterate 3 revert K);refine bc ?_)
   rw[eA];exact tv _ _
open Classical in
noncomputable def jv(L:B0->Prop)(w:B0)(i j:Nat):Bool:=decide (Tk L w i j)
theorem fU{L:B0->Prop}{w:B0}{i j:Nat}:jv L w i j=true↔Tk L w i j:=by simp[jv]
theorem jP{L M:B0->Prop}{w:B0}(h:∀u,u.length<=w.length->(L u↔M u)):jv L w=jv M w:=by
 funext i j
 rw[af7,fU,fU]
 have:∀(q:j<=w.length),(GV w i j).length<=w.length:=λq=>by grind[sI]
 constructor
 ·rintro⟨H,q,A⟩;exact⟨H,q,(h _ (this q)).1 A⟩
 ·rintro⟨H,q,A⟩;exact⟨H,q,(h _ (this q)).2 A⟩
theorem yQ{N:Nat}{f g:GT}(h:∀i j,i<N->j<N->(f i j=true↔g i j=true)):mH N f=mH N g:=Wz λi j hi q=>af7.2 (h i j hi q)
theorem Uc(w:B0):mH (w.length+1) (λ_ _=>false)=mH (w.length+1) (jv (λ_=>False) w):=yQ λi j hi q=>by
 grind[fU,Tk]
theorem yR(w:B0):mH (w.length+1) YW=mH (w.length+1) (jv (λu=>u=[]) w):=yQ λi j hi q=>by
 rw[fU,YW,decide_eq_true_eq]
 constructor
 ·rintro rfl;exact⟨Nat.le_refl _,zd,OE _ _⟩
 ·rintro⟨O,H,A⟩
  grind[sI]
theorem Qf(L M:B0->Prop)(w:B0):mH (w.length+1) (WK (jv L w) (jv M w))=mH (w.length+1) (jv (λu=>L u∨M u) w):=yQ λi j hi O=>by
 rw[fU,WK,aeW,Bool.or_eq_true,decide_eq_true_eq,fU,fU]
 constructor
 ·rintro⟨A,⟨_,H,q⟩|⟨_,H,q⟩⟩
  ·exact⟨A,H,.inl q⟩
  ·exact⟨A,H,.inr q⟩
 ·rintro⟨A,H,q|q⟩
  ·exact⟨A,.inl ⟨A,H,q⟩⟩
  ·exact⟨A,.inr ⟨A,H,q⟩⟩
theorem Dq(L M:B0->Prop)(w:B0):mH (w.length+1) (BN (w.length+1) (jv L w) (jv M w))=mH (w.length+1) (jv (λu=>∃a b,u=a++b∧L a∧M b) w):=yQ λi j hi hj=>by
 rw[fU,Nu]
 constructor
 ·rintro⟨k,_,U,q,O,H⟩;obtain⟨_,_,A⟩:=fU.1 O;obtain⟨_,h6,Y⟩:=fU.1 H;exact⟨zd,h6,_,_,(J7 U q).symm,A,Y⟩
 ·rintro⟨U,q,a,b,O,H,A⟩;obtain⟨k,W,V,rfl,rfl⟩:=OD U q O;exact⟨k,zd,W,V,fU.2 ⟨W,zd,H⟩,fU.2 ⟨V,q,A⟩⟩
def fe(L:B0->Prop):Nat->B0->Prop
 |0,u=>u=[]
 |k+1,u=>u=[]∨∃a b,u=a++b∧L a∧fe L k b
theorem fe.nil{L:B0->Prop}:∀k,fe L k []
 |0=>rfl
 |k+1=> .inl rfl
theorem fe.one{L:B0->Prop}{u:B0}:fe L 1 u↔(u=[]∨L u):=by
 simp only[fe]
 grind
theorem fe.mono{L:B0->Prop}:∀{k m:Nat}{u:B0},k<=m->fe L k u->fe L m u
 |0,m,u,_,h=>by grind[fe,nil]
 |k+1,0,u,q,_=>zd
 |k+1,m+1,u,q,h=>by
  rw[fe]at h⊢
  rcases h with h|⟨a,b,e,H,A⟩
  ·exact .inl h
  ·exact .inr ⟨a,b,e,H,fe.mono zd A⟩
theorem fe.add{L:B0->Prop}:∀{k m:Nat}{u:B0},fe L (k+m) u ↔ ∃a b,u=a++b∧fe L k a∧fe L m b
 |0,m,u=>by
  rw[Nat.zero_add]
  constructor
  ·intro h;exact⟨[],u,rfl,rfl,h⟩
  ·rintro⟨a,b,rfl,A,q⟩
   grind[fe]
 |k+1,m,u=>by
  rw[show k+1+m=(k+m)+1 by omega]
  constructor
  ·intro h;rw[fe]at h
   rcases h with rfl|⟨a,b,rfl,A,q⟩
   ·exact⟨[],[],rfl,.nil _,.nil _⟩
   ·obtain⟨c,d,rfl,O,H⟩:=fe.add.1 q;exact⟨a++c,d,zk,.inr ⟨a,c,rfl,A,O⟩,H⟩
  ·rintro⟨a,b,rfl,A,q⟩;rw[fe]at A
   rcases A with rfl|⟨c,d,rfl,O,H⟩
   ·exact fe.mono zd q
   ·rw[fe];exact .inr ⟨c,d++b,zk,O,fe.add.2 ⟨d,b,rfl,H,q⟩⟩
theorem fe.star{L:B0->Prop}:∀{k:Nat}{u:B0},fe L k u->dT L u
 |0,u,h=>by rw[fe]at h;subst h;exact .nil
 |k+1,u,h=>by
  rw[fe]at h
  rcases h with rfl|⟨a,b,rfl,A,q⟩
  ·exact .nil
  ·exact(dT.one A).append q.star
theorem dT.pow{L:B0->Prop}{u:B0}(h:dT L u):fe L u.length u:=by
 induction h with
 |nil=>rfl
 |cons a b A q _ ih=>
  rw[List.length_append]
  have:0<a.length:=List.length_pos_iff.2 A
  exact fe.mono (k:=b.length+1) zd (.inr ⟨a,b,rfl,q,ih⟩)
theorem QE{L:B0->Prop}{k:Nat}{u:B0}(h:u.length<=k):fe L k u↔dT L u:=⟨fe.star,λq=>fe.mono h q.pow⟩
theorem Hf{l:IO}{x:Ex}{u:B0}:jV (l++[x]) u↔jV l u∨Lg x u:=by
 grind[uu,List.mem_singleton,List.mem_append_left,List.mem_append_right]
theorem Hg{l:IO}{x:Ex}{u:B0}:dN (l++[x]) u ↔ ∃a b,u=a++b∧dN l a∧Lg x b:=by
 rw[uv]
 constructor
 ·rintro⟨a,b,rfl,h,k⟩;rw[dN]at k;obtain⟨c,d,rfl,A,q⟩:=k
  grind[dN]
 ·rintro⟨a,b,rfl,h,k⟩;refine⟨a,b,rfl,h,?_⟩;rw[dN];exact⟨b,[],zk,k,by rw[dN]⟩
def kG(w:B0)(s:ByteArray)(m i j:Nat):Bool:=decide (j=i+1∧i<m)&&((w.getD i ⟨#[]⟩).toList==s.toList)
theorem PO(w:B0)(s:ByteArray):(λ_ _=>false)=kG w s 0:=by grind[kG]
theorem FA(w:B0)(s:ByteArray)(m:Nat):oP (kG w s m) m (m+1) ((w.getD m ⟨#[]⟩).toList==s.toList)=kG w s (m+1):=by
 funext p q
 rw[oP,kG,kG]
 grind
theorem WA(w:B0)(s:ByteArray):mH (w.length+1) (kG w s w.length)=mH (w.length+1) (jv (λu=>u=[s]) w):=yQ λi j hi H=>by
 rw[fU,kG,aeW,decide_eq_true_eq,beq_iff_eq]
 constructor
 ·rintro⟨⟨rfl,A⟩,U⟩;refine⟨zd,zd,?_⟩;have q:w.getD i ⟨#[]⟩=s:=toList_inj.1 (by grind);rw[GV,show i+1-i=1 by omega,afW A,List.take_succ_cons,List.take_zero, <- q,List.getD_eq_getElem?_getD,List.getElem?_eq_getElem A];rfl
 ·rintro⟨A,U,q⟩;have O:=sI (i:=i) U;rw[q]at O;simp at O
  have H:j=i+1:=zd
  subst H
  have V:i<w.length:=zd
  rw[GV,show i+1-i=1 by omega,afW V,List.take_succ_cons,List.take_zero]at q
  grind
def cY(x:Ex):Bool:=(aq x).all Ex.part
theorem Cl(k:Int)(s:ByteArray)(l:IO):cY (.mk k s l)=(bP k s l.length&&l.all cY):=by
 unfold cY;rw[aq,bO,List.all_cons,List.all_flatMap];rfl
theorem Qu(x:Ex):(∀z,z∈aq x->z.kids.length<=1000000∧z.label.size<=1000000000000000)->aj prog 137 [.agg (aP x)] (.v (.bool (cY x))):=by
 induction x using Ex.ind with
 |h k s l ih=>
  intro hz;have hs:l.length<=1000000∧s.size<=1000000000000000:=hz (.mk k s l) (by rw[aq];exact List.mem_cons_self);have hsub:∀y,y∈l->aj prog 137 [.agg (aP y)] (.v (.bool (cY y))):=λy hy=>ih y hy (λz hz'=>hz z (by rw[aq,bO];exact List.mem_cons_of_mem _ (List.mem_flatMap.2 ⟨_,hy,hz'⟩)));have F:=yo s hs.2;rw[aB,Cl];simp only[Ex.kind,Ex.label,Ex.kids];refine gE func137 ntmps137 results137 ?_
  (refine ag ?_;intro K hK)
  rcases(by by_cases a1:k=1<;>by_cases a2:k=2<;>by_cases a3:k=3<;>by_cases a4:k=4<;>by_cases a5:k=5<;>by_cases a6:k=6<;>simp_all:k=1∨k=2∨k=3∨k=4∨k=5∨k=6∨(k≠1∧k≠2∧k≠3∧k≠4∧k≠5∧k≠6))with hk|hk|hk|hk|hk|hk|hk
  ·have O:(k==1)=true:=by rw[beq_iff_eq];omega
   have V:(k==2)=false:=by rw[<-aeR,beq_iff_eq];omega
   have U:(k==3)=false:=by rw[<-aeR,beq_iff_eq];omega
   have e4:(k==4)=false:=by rw[<-aeR,beq_iff_eq];omega
   have Y:(k==5)=false:=by rw[<-aeR,beq_iff_eq];omega
   have W:(k==6)=false:=by rw[<-aeR,beq_iff_eq];omega
   (revert K;refine ak (nU O V U e4 Y W) ?_;intro K hK K hK K hK)
   ((iterate 3 revert K);refine dA F (nU O V U e4 Y W) ?_;intro K hK K hK K hK)
   cases hf:cB s with
   |false=>
    ((iterate 3 revert K);refine dj hf ?_)
    rw[bP];simp only[O,if_true,hf,afL,afA]
   |true=>
    ((iterate 3 revert K);refine ak hf ?_)
    rcases Nat.eq_zero_or_pos l.length with q|q
    ·have e:l=[]:=List.eq_nil_of_length_eq_zero q;rw[e,bP];simp[O,hf]
    ·have a:((l.length:Int)==0)=false:=by rw[<-aeR,beq_iff_eq];omega
     have b:decide (l.length=0)=false:=bi;rw[a,bP];simp only[O,if_true,b,afA]
  ·have O:(k==1)=false:=by rw[<-aeR,beq_iff_eq];omega
   have V:(k==2)=true:=by rw[beq_iff_eq];omega
   have U:(k==3)=false:=by rw[<-aeR,beq_iff_eq];omega
   have e4:(k==4)=false:=by rw[<-aeR,beq_iff_eq];omega
   have Y:(k==5)=false:=by rw[<-aeR,beq_iff_eq];omega
   have W:(k==6)=false:=by rw[<-aeR,beq_iff_eq];omega
   (revert K;refine ak (nU O V U e4 Y W) ?_;intro K hK)
   refine cn.part (λA=>?_) (λA=>?_)
   ·have hl:l.length<2:=by replace A:=cq A;omega
    (revert K;refine ak A ?_)
    have hd:decide (1<l.length)=false:=bi;rw[bP];simp[O,V,U,hd]
   ·have hl:1<l.length:=by replace A:=cq A;omega
    (revert K;refine ak A ?_;intro K hK)
    refine b7 (ι:=Nat) (λi=>[(1,.ptr 0 0 3 0 0),(2,.v (.bool false)),(3,.v (.int .i64 i))]) (λ_=>[some ⟨25,3,false,[[.v (.int .i64 k),.v (.string s),.aA 3 (l.map aP) l.length]]⟩]) (λi=>l.length-i) (λi=>i<=l.length∧∀j(h:j<l.length),j<i->cY l[j]=true) 0 ⟨zd,λj _ h=>absurd h zd⟩ ?_ ?_
    ·refine ab (bF ?_) ar ar
     rfl
    ·rintro i ⟨hi,hP⟩ K hK;simp only[bN,afD,afE,afJ,afK,go_sem]
     (revert K;revert K;refine ag ?_;intro K hK K hK K hK)
     refine cn.part (λh=>?_) (λh=>?_)
     ·have u:i<l.length:=by replace h:=cq h;omega
      have eW:=ae (k:=i) zd;have eG:=getD_map aP l i [] u;have C:=hsub l[i] (afm u);simp only[aB]at C eG
      ((iterate 3 revert K);refine ak eG ?_;iterate 5 intro K hK)
      ((iterate 5 revert K);refine dA C eG ?_;intro K hK K hK K hK)
      refine cn.part (λH=>?_) (λH=>?_)
      ·((iterate 3 revert K);refine ak eW ?_)
       exact aw.mk (i+1) ⟨zd,λj hj h3=>(by
        rcases aei j i with r|r
        ·exact hP j hj r
        ·have e:j=i:=zd
         subst e
         exact H)⟩ zd (by exact ab ar ar ar)
      ·((iterate 3 revert K);refine ak H ?_)
       have e:l.all cY=false:=by
        rw[<-aeR,ae7];intro hh;rw[hh _ (afm u)]at H;cases H
       rw[e,afL]
     ·have he:i=l.length:=by replace h:=cq h;omega
      have e:l.all cY=true:=ae7.2 (λy hy=>by
       obtain⟨j,hj,rfl⟩:=agb hy
       exact hP j hj zd)
      ((iterate 3 revert K);refine ag ?_)
      rw[e,vd,afe,bP];simp only[O,V,U,e4,Y,W];have hd:decide (1<l.length)=true:=b0;simp[hd]
  ·have O:(k==1)=false:=by rw[<-aeR,beq_iff_eq];omega
   have V:(k==2)=false:=by rw[<-aeR,beq_iff_eq];omega
   have U:(k==3)=true:=by rw[beq_iff_eq];omega
   have e4:(k==4)=false:=by rw[<-aeR,beq_iff_eq];omega
   have Y:(k==5)=false:=by rw[<-aeR,beq_iff_eq];omega
   have W:(k==6)=false:=by rw[<-aeR,beq_iff_eq];omega
   (revert K;refine ak (nU O V U e4 Y W) ?_;intro K hK)
   refine cn.part (λA=>?_) (λA=>?_)
   ·have hl:l.length<2:=by replace A:=cq A;omega
    (revert K;refine ak A ?_)
    have hd:decide (1<l.length)=false:=bi;rw[bP];simp[O,V,U,hd]
   ·have hl:1<l.length:=by replace A:=cq A;omega
    (revert K;refine ak A ?_;intro K hK)
    refine b7 (ι:=Nat) (λi=>[(1,.ptr 0 0 3 0 0),(2,.v (.bool false)),(3,.v (.int .i64 i))]) (λ_=>[some ⟨25,3,false,[[.v (.int .i64 k),.v (.string s),.aA 3 (l.map aP) l.length]]⟩]) (λi=>l.length-i) (λi=>i<=l.length∧∀j(h:j<l.length),j<i->cY l[j]=true) 0 ⟨zd,λj _ h=>absurd h zd⟩ ?_ ?_
    ·refine ab (bF ?_) ar ar
     rfl
    ·rintro i ⟨hi,hP⟩ K hK;simp only[bN,afD,afE,afJ,afK,go_sem]
     (revert K;revert K;refine ag ?_;intro K hK K hK K hK)
     refine cn.part (λh=>?_) (λh=>?_)
     ·have u:i<l.length:=by replace h:=cq h;omega
      have eW:=ae (k:=i) zd;have eG:=getD_map aP l i [] u;have C:=hsub l[i] (afm u);simp only[aB]at C eG
      ((iterate 3 revert K);refine ak eG ?_;iterate 5 intro K hK)
      ((iterate 5 revert K);refine dA C eG ?_;intro K hK K hK K hK)
      refine cn.part (λH=>?_) (λH=>?_)
      ·((iterate 3 revert K);refine ak eW ?_)
       exact aw.mk (i+1) ⟨zd,λj hj h3=>(by
        rcases aei j i with r|r
        ·exact hP j hj r
        ·have e:j=i:=zd
         subst e
         exact H)⟩ zd (by exact ab ar ar ar)
      ·((iterate 3 revert K);refine ak H ?_)
       have e:l.all cY=false:=by
        rw[<-aeR,ae7];intro hh;rw[hh _ (afm u)]at H;cases H
       rw[e,afL]
     ·have he:i=l.length:=by replace h:=cq h;omega
      have e:l.all cY=true:=ae7.2 (λy hy=>by
       obtain⟨j,hj,rfl⟩:=agb hy
       exact hP j hj zd)
      ((iterate 3 revert K);refine ag ?_)
      rw[e,vd,afe,bP];simp only[O,V,U,e4,Y,W];have hd:decide (1<l.length)=true:=b0;simp[hd]
  ·have O:(k==1)=false:=by rw[<-aeR,beq_iff_eq];omega
   have V:(k==2)=false:=by rw[<-aeR,beq_iff_eq];omega
   have U:(k==3)=false:=by rw[<-aeR,beq_iff_eq];omega
   have e4:(k==4)=true:=by rw[beq_iff_eq];omega
   have Y:(k==5)=false:=by rw[<-aeR,beq_iff_eq];omega
   have W:(k==6)=false:=by rw[<-aeR,beq_iff_eq];omega
   (revert K;refine ak (nU O V U e4 Y W) ?_;intro K hK)
   refine cn.part (λA=>?_) (λA=>?_)
   ·have hl:l.length≠1:=by replace A:=cq A;omega
    (revert K;refine ak A ?_)
    have hd:decide (l.length=1)=false:=decide_eq_false hl;rw[bP];simp[O,V,U,e4,Y,W,hd]
   ·have hl:l.length=1:=by replace A:=cq A;omega
    (revert K;refine ak A ?_;intro K hK)
    refine b7 (ι:=Nat) (λi=>[(1,.ptr 0 0 3 0 0),(2,.v (.bool false)),(3,.v (.int .i64 i))]) (λ_=>[some ⟨25,3,false,[[.v (.int .i64 k),.v (.string s),.aA 3 (l.map aP) l.length]]⟩]) (λi=>l.length-i) (λi=>i<=l.length∧∀j(h:j<l.length),j<i->cY l[j]=true) 0 ⟨zd,λj _ h=>absurd h zd⟩ ?_ ?_
    ·refine ab (bF ?_) ar ar
     rfl
    ·rintro i ⟨hi,hP⟩ K hK;simp only[bN,afD,afE,afJ,afK,go_sem]
     (revert K;revert K;refine ag ?_;intro K hK K hK K hK)
     refine cn.part (λh=>?_) (λh=>?_)
     ·have u:i<l.length:=by replace h:=cq h;omega
      have eW:=ae (k:=i) zd;have eG:=getD_map aP l i [] u;have C:=hsub l[i] (afm u);simp only[aB]at C eG
      ((iterate 3 revert K);refine ak eG ?_;iterate 5 intro K hK)
      ((iterate 5 revert K);refine dA C eG ?_;intro K hK K hK K hK)
      refine cn.part (λH=>?_) (λH=>?_)
      ·((iterate 3 revert K);refine ak eW ?_)
       exact aw.mk (i+1) ⟨zd,λj hj h3=>(by
        rcases aei j i with r|r
        ·exact hP j hj r
        ·have e:j=i:=zd
         subst e
         exact H)⟩ zd (by exact ab ar ar ar)
      ·((iterate 3 revert K);refine ak H ?_)
       have e:l.all cY=false:=by
        rw[<-aeR,ae7];intro hh;rw[hh _ (afm u)]at H;cases H
       rw[e,afL]
     ·have he:i=l.length:=by replace h:=cq h;omega
      have e:l.all cY=true:=ae7.2 (λy hy=>by
       obtain⟨j,hj,rfl⟩:=agb hy
       exact hP j hj zd)
      ((iterate 3 revert K);refine ag ?_)
      rw[e,vd,afe,bP];simp only[O,V,U,e4,Y,W];have hd:decide (l.length=1)=true:=b0;simp[hd]
  ·have O:(k==1)=false:=by rw[<-aeR,beq_iff_eq];omega
   have V:(k==2)=false:=by rw[<-aeR,beq_iff_eq];omega
   have U:(k==3)=false:=by rw[<-aeR,beq_iff_eq];omega
   have e4:(k==4)=false:=by rw[<-aeR,beq_iff_eq];omega
   have Y:(k==5)=true:=by rw[beq_iff_eq];omega
   have W:(k==6)=false:=by rw[<-aeR,beq_iff_eq];omega
   (revert K;refine ak (nU O V U e4 Y W) ?_;intro K hK)
   refine cn.part (λA=>?_) (λA=>?_)
   ·have hl:l.length≠1:=by replace A:=cq A;omega
    (revert K;refine ak A ?_)
    have hd:decide (l.length=1)=false:=decide_eq_false hl;rw[bP];simp[O,V,U,e4,Y,W,hd]
   ·have hl:l.length=1:=by replace A:=cq A;omega
    (revert K;refine ak A ?_;intro K hK)
    refine b7 (ι:=Nat) (λi=>[(1,.ptr 0 0 3 0 0),(2,.v (.bool false)),(3,.v (.int .i64 i))]) (λ_=>[some ⟨25,3,false,[[.v (.int .i64 k),.v (.string s),.aA 3 (l.map aP) l.length]]⟩]) (λi=>l.length-i) (λi=>i<=l.length∧∀j(h:j<l.length),j<i->cY l[j]=true) 0 ⟨zd,λj _ h=>absurd h zd⟩ ?_ ?_
    ·refine ab (bF ?_) ar ar
     rfl
    ·rintro i ⟨hi,hP⟩ K hK;simp only[bN,afD,afE,afJ,afK,go_sem]
     (revert K;revert K;refine ag ?_;intro K hK K hK K hK)
     refine cn.part (λh=>?_) (λh=>?_)
     ·have u:i<l.length:=by replace h:=cq h;omega
      have eW:=ae (k:=i) zd;have eG:=getD_map aP l i [] u;have C:=hsub l[i] (afm u);simp only[aB]at C eG
      ((iterate 3 revert K);refine ak eG ?_;iterate 5 intro K hK)
      ((iterate 5 revert K);refine dA C eG ?_;intro K hK K hK K hK)
      refine cn.part (λH=>?_) (λH=>?_)
      ·((iterate 3 revert K);refine ak eW ?_)
       exact aw.mk (i+1) ⟨zd,λj hj h3=>(by
        rcases aei j i with r|r
        ·exact hP j hj r
        ·have e:j=i:=zd
         subst e
         exact H)⟩ zd (by exact ab ar ar ar)
      ·((iterate 3 revert K);refine ak H ?_)
       have e:l.all cY=false:=by
        rw[<-aeR,ae7];intro hh;rw[hh _ (afm u)]at H;cases H
       rw[e,afL]
     ·have he:i=l.length:=by replace h:=cq h;omega
      have e:l.all cY=true:=ae7.2 (λy hy=>by
       obtain⟨j,hj,rfl⟩:=agb hy
       exact hP j hj zd)
      ((iterate 3 revert K);refine ag ?_)
      rw[e,vd,afe,bP];simp only[O,V,U,e4,Y,W];have hd:decide (l.length=1)=true:=b0;simp[hd]
  ·have O:(k==1)=false:=by rw[<-aeR,beq_iff_eq];omega
   have V:(k==2)=false:=by rw[<-aeR,beq_iff_eq];omega
   have U:(k==3)=false:=by rw[<-aeR,beq_iff_eq];omega
   have e4:(k==4)=false:=by rw[<-aeR,beq_iff_eq];omega
   have Y:(k==5)=false:=by rw[<-aeR,beq_iff_eq];omega
   have W:(k==6)=true:=by rw[beq_iff_eq];omega
   (revert K;refine ak (nU O V U e4 Y W) ?_;intro K hK)
   refine cn.part (λA=>?_) (λA=>?_)
   ·have hl:l.length≠1:=by replace A:=cq A;omega
    (revert K;refine ak A ?_)
    have hd:decide (l.length=1)=false:=decide_eq_false hl;rw[bP];simp[O,V,U,e4,Y,W,hd]
   ·have hl:l.length=1:=by replace A:=cq A;omega
    (revert K;refine ak A ?_;intro K hK)
    refine b7 (ι:=Nat) (λi=>[(1,.ptr 0 0 3 0 0),(2,.v (.bool false)),(3,.v (.int .i64 i))]) (λ_=>[some ⟨25,3,false,[[.v (.int .i64 k),.v (.string s),.aA 3 (l.map aP) l.length]]⟩]) (λi=>l.length-i) (λi=>i<=l.length∧∀j(h:j<l.length),j<i->cY l[j]=true) 0 ⟨zd,λj _ h=>absurd h zd⟩ ?_ ?_
    ·refine ab (bF ?_) ar ar
     rfl
    ·rintro i ⟨hi,hP⟩ K hK;simp only[bN,afD,afE,afJ,afK,go_sem]
     (revert K;revert K;refine ag ?_;intro K hK K hK K hK)
     refine cn.part (λh=>?_) (λh=>?_)
     ·have u:i<l.length:=by replace h:=cq h;omega
      have eW:=ae (k:=i) zd;have eG:=getD_map aP l i [] u;have C:=hsub l[i] (afm u);simp only[aB]at C eG
      ((iterate 3 revert K);refine ak eG ?_;iterate 5 intro K hK)
      ((iterate 5 revert K);refine dA C eG ?_;intro K hK K hK K hK)
      refine cn.part (λH=>?_) (λH=>?_)
      ·((iterate 3 revert K);refine ak eW ?_)
       exact aw.mk (i+1) ⟨zd,λj hj h3=>(by
        rcases aei j i with r|r
        ·exact hP j hj r
        ·have e:j=i:=zd
         subst e
         exact H)⟩ zd (by exact ab ar ar ar)
      ·((iterate 3 revert K);refine ak H ?_)
       have e:l.all cY=false:=by
        rw[<-aeR,ae7];intro hh;rw[hh _ (afm u)]at H;cases H
       rw[e,afL]
     ·have he:i=l.length:=by replace h:=cq h;omega
      have e:l.all cY=true:=ae7.2 (λy hy=>by
       obtain⟨j,hj,rfl⟩:=agb hy
       exact hP j hj zd)
      ((iterate 3 revert K);refine ag ?_)
      rw[e,vd,afe,bP];simp only[O,V,U,e4,Y,W];have hd:decide (l.length=1)=true:=b0;simp[hd]
  ·have O:(k==1)=false:=by rw[<-aeR,beq_iff_eq];omega
   have V:(k==2)=false:=by rw[<-aeR,beq_iff_eq];omega
   have U:(k==3)=false:=by rw[<-aeR,beq_iff_eq];omega
   have e4:(k==4)=false:=by rw[<-aeR,beq_iff_eq];omega
   have Y:(k==5)=false:=by rw[<-aeR,beq_iff_eq];omega
   have W:(k==6)=false:=by rw[<-aeR,beq_iff_eq];omega
   (revert K;refine ak (nU O V U e4 Y W) ?_)
   rw[bP];simp[O,V,U,e4,Y,W]
theorem qH(x:Ex)(A:(aq x).length<=1000000)(u:∀z,z∈aq x->z.kids.length<=1000000∧z.label.size<=1000000000000000):aj prog 101 [.agg (aP x)] (.v (.bool (aD x))):=by
 have S:=Rk x A;have T:=Qu x u;have e:aD x=(decide ((aq x).length<=24)&&cY x):=rfl;rw[e];simp only[aB]at S T⊢;refine gE func101 ntmps101 results101 ?_
 (refine ag ?_;intro K hK K hK)
 (revert K;revert K;refine aM S ?_;intro K hK K hK)
 refine cn.part (λh=>?_) (λh=>?_)
 ·(revert K;revert K;refine ak h ?_;intro K hK K hK)
  (revert K;revert K;refine dA T h ?_)
  have q:decide ((aq x).length<=24)=true:=by(try simp only[decide_eq_true_eq,decide_eq_false_iff_not]at h);exact b0
  rw[q,Bool.true_and]
 ·(revert K;revert K;refine dj h ?_)
  have q:decide ((aq x).length<=24)=false:=by(try simp only[decide_eq_true_eq,decide_eq_false_iff_not]at h);exact bi
  rw[q,afA]
theorem bT.Sd{P:Program}{f:FuncId}{args:C5}{O r:AV}{o':AC}(h:bT P f args [] O o')(ha:aQ 0 args=true)(U:r.wf 0=true)(W:sw o' O r):mI P f args r:=by
 obtain⟨hc,h2⟩:=h;refine⟨⟨ha,U⟩,hc,λD nu w vargs A H=>(h2 D nu w vargs A H).mono ?_⟩;rintro e w' ⟨v,nu',o2,r2,rfl,u,hro',hra',rfl,rfl⟩;refine⟨v,rfl,⟨u.os,u.tape,u.output,u.size,λb hb=>(u.keep b hb (br _ _)).1⟩,(W _ _ _ _ hro' hra').tr (n:=0) (λb V=>⟨V.1,br _ _,?_⟩) (λid len Y=>zd) U⟩
 rcases Nat.lt_or_ge b w.heap.size with q|q
 ·exact absurd V.2.2 (u.keep b q (br _ _)).2
 ·exact q
theorem tB(n:Nat)(hn:n<=1000):aj prog 229 [.v (.int .i64 n)] (.aA 1 (mH (n+1) (λ_ _=>false)) (n+1)):=
 ((FN n hn).Sd rfl (by simp only[AV.wf,gJ]) (tv _ _)).to1
theorem Be{k N m i:Nat}{f:GT}{b x:Option aa}(h:i<m):(b::x::bB N f m)[nf 1 i]?=some (ma N (f i)):=by
 rw[show nf 1 i=nf 0 i+1 by unfold nf;omega,afs];exact mU (k:=k) h
theorem MG{N m i j:Nat}{f:GT}{v:Bool}{b x:Option aa}(h:i<m):(b::x::bB N f m).set (nf 1 i) (some ⟨4,1,true,(dK N (f i)).set j [.v (.bool v)]⟩)=b::x::bB N (oP f i j v) m:=by
 rw[show nf 1 i=nf 0 i+1 by unfold nf;omega,afG,pT h]
theorem Xt{n k N m:Nat}{f:GT}{b:Option aa}(q:∀ob,b=some ob->bE n ob.rows=true)(h:k+2*m<=n):zU n (b::cA k N m f) (b::cA k N m f):=⟨.inr ⟨rfl,q⟩,GQ h⟩
theorem VH{t q:C5}{y:kB}{N m:Nat}{f:GT}{b:Option aa}(u:∀n ob,b=some ob->bE n ob.rows=true)(h:iT (2*m+2) t q):Wk 0 ⟨t,b::some ⟨121,1,true,bw 1 N m⟩ ::bB N f m,y⟩ ⟨q,b::cA 1 N m f,y⟩:=by
 have e:(b::cA 1 N m f).length=2*m+2:=by rw[ae0,jh]
 exact ab (by rw[e];exact h) (by rw[e];exact Xt (u _) zd) (Nat.zero_le _)
theorem ME(b:Option aa)(N:Nat)(f:GT):sw (b::cA 1 N N f) (.vec 1 N) (.aA 1 (mH N f) N):=by
 refine sw.U3 (ob:=⟨121,1,true,bw 1 N N⟩) rfl rfl (dC _ _ _) (by rw[xd];exact(dC _ _ _).symm) λi row row' H O=>?_
 have hi:i<N:=by have:=(List.getElem?_eq_some_iff.1 H).1;rw[dC]at this;exact this
 have V:(bw 1 N N)[i]?=some [.vec (nf 1 i) N]:=by rw[bw,List.getElem?_map,List.getElem?_range hi];rfl
 have U:(mH N f)[i]?=some [.aA 1 (dK N (f i)) N]:=by rw[mH,List.getElem?_map,List.getElem?_range hi];rfl
 cases(aec (V.symm.trans H));cases(aec (U.symm.trans O));refine⟨rfl,λj c W q u=>?_⟩
 match j,q,u with
 |0,q,u=>
  cases q;cases u;exact sw.vec (ob:=⟨4,1,true,dK N (f i)⟩) (Be (k:=0) hi) rfl (lf _ _) (Bl _ (λs c A=>by rw[List.mem_singleton]at A;exact⟨_,A⟩) _)
 |j+1,q,u=>simp at q
def kM(w:B0)(x:Ex):Prop:=aj prog 222 [.agg (aP x),bZ w] (.aA 1 (mH (w.length+1) (jv (Lg x) w)) (w.length+1))
theorem RW(w:B0)(V:w.length<=1000)(s:ByteArray):kM w (.mk 1 s []):=by
 have U:decide (1<2*(w.length+1)+2)=true:=b0;have O:decide (0<2*(w.length+1)+2)=true:=b0
 have eL:jv (Lg (.mk 1 s [])) w=jv (λu=>u=[s]) w:=jP λu _=>by simp[Lg]
 rw[kM,eL, <- WA];simp only[aB,bZ,Ex.kind,Ex.label,Ex.kids,agt,aeg];refine mI.to1 ?_
 (refine mI.enter func222 rfl zo zo rfl (by simp only[go_sem,aQ,AV.wf,agp,Bool.and_true,afi,Go.undef]) (by simp only[go_sem,aQ,AV.wf,bz,agp,Bool.and_true,afi,Go.undef]) ?_;simp only[ntmps222,results222,ae0,aeg,Nat.reduceAdd,Nat.reduceSub,List.replicate_succ,List.replicate_zero,List.cons_append,List.nil_append])
 (refine bc ?_;intro K hK K hK)
 refine ah.Ds V ?_;simp only[ae0,aeg,List.cons_append,List.nil_append,aeY]
 (revert K;revert K;refine bc ?_;intro K hK)
 refine aN (ι:=Nat) 20 (λi=>[(7,.v (.int .i64 i))]) (λi=>some ⟨25,3,false,[[.v (.int .i64 1),.v (.string s),.aA 3 [] 0]]⟩ ::cA 1 (w.length+1) (w.length+1) (kG w s i)) (λi=>w.length-i) (λi=>i<=w.length) 0 zd ?_ ?_
 ·rw[PO w s];refine VH (λn ob e=>by cases e;rfl) ?_;simp only[go_sem,iT,true_or,or_true,true_and,and_true,U,O];exact .inr rfl
 ·intro i hi K hK;simp only[cA]
  (revert K;revert K;refine bc ?_;intro K hK K hK K hK)
  refine cn.part (λh=>?_) (λh=>?_)
  ·have H:i<w.length:=by replace h:=cq h;omega
   have q:i<w.length+1:=zd
   have A:i+1<w.length+1:=zd
   have eW:=ae (k:=i) zd;have eO:=lM (k:=1) (N:=w.length+1) q;have W:∀b x,(b::x::bB (w.length+1) (kG w s i) (w.length+1))[nf 1 i]? = _:=λb x=>Be (k:=0) (b:=b) (x:=x) q
   have eG:(w.map encS).getD i []=[.v (.string (w.getD i ⟨#[]⟩))]:=by
    rw[getD_map encS w i [] H,encS,List.getD_eq_getElem?_getD,List.getElem?_eq_getElem H];rfl
   have eR:=dR (g:=kG w s i i) A;have eS:=λb x v=>MG (N:=w.length+1) (j:=i+1) (f:=kG w s i) (v:=v) (b:=b) (x:=x) q;have eU:=FA w s i
   repeat(first|(with_reducible first|refine bA.up ?_|refineλ(K:AK)hK=>?_|refine wE ?_|refine wK ?_|refine wF ?_|(refine hK _ ?_;clear hK K))|simp only[go_sem,eW,eO,W,eG,ma,eR,eS,eU]|with_reducible refine wA ?_|clear hK K)
   refine aw.mk (i+1) zd zd (VH (λn ob e=>by cases e;rfl) ?_);simp only[go_sem,iT,true_or,or_true,true_and,and_true,U,O]
  ·have Y:i=w.length:=by replace h:=cq h;omega
   simp only[Y]
   ((iterate 3 revert K);refine bc ?_)
   exact ME _ _ _
theorem RY(w:B0)(A:w.length<=1000)(s:ByteArray)(l:IO)(hl:l.length<=1000000)(H:∀x,x∈l->kM w x):kM w (.mk 2 s l):=by
 have N:=tB w.length A;have S:=vz w.length A
 have eL:jv (Lg (.mk 2 s l)) w=jv (dN l) w:=jP λu _=>by simp[Lg]
 have e0:jv (λu=>u=[]) w=jv (dN (l.take 0)) w:=jP λu _=>by simp[dN]
 rw[yR,e0]at S;have O:=λx U=>H x U;simp only[kM]at O⊢;rw[eL];simp only[aB,bZ,Ex.kind,Ex.label,Ex.kids]at O⊢;refine gE func222 ntmps222 results222 ?_
 (refine ag ?_;intro K hK K hK)
 (revert K;revert K;refine aM N ?_;intro K hK K hK K hK)
 ((iterate 3 revert K);refine aM S ?_;intro K hK)
 refine aZ (ι:=Nat) 43 (λk=>[(6,.aA 1 (mH (w.length+1) (jv (dN (l.take k)) w)) (w.length+1)),(8,.v (.int .i64 k))]) (λk=>l.length-k) (λk=>k<=l.length) 0 zd ?_ ?_
 ·refine ab (bF ?_) ar ar
  rfl
 ·intro k W K hK
  (revert K;revert K;refine ag ?_;intro K hK K hK K hK)
  refine cn.part (λh=>?_) (λh=>?_)
  ·have q:k<l.length:=by replace h:=qv h;omega
   have eW:=ae (k:=k) zd;have eG:=getD_map aP l k [] q;have HX:=O l[k] (afm q);have J:=rR w.length (jv (dN (l.take k)) w) (jv (Lg l[k]) w) A
   have eM:jv (λu=>∃a b,u=a++b∧dN (l.take k) a∧Lg l[k] b) w=jv (dN (l.take (k+1))) w:=jP λu _=>by
    rw[agD q,Hg]
   rw[Dq,eM]at J;simp only[aB]at eG
   ((iterate 3 revert K);refine ak eG ?_;iterate 4 intro K hK)
   ((iterate 4 revert K);refine aM HX ?_;iterate 4 intro K hK)
   ((iterate 4 revert K);refine dA J eW ?_)
   exact aw.mk (k+1) zd zd (by exact ab ar ar ar)
  ·have V:l.take k=l:=agH (by replace h:=qv h;omega);simp only[V]
   ((iterate 3 revert K);refine ag ?_)
   exact iE.aA (gJ _ _ _)
theorem RU(w:B0)(O:w.length<=1000)(s:ByteArray)(l:IO)(hl:l.length<=1000000)(H:∀x,x∈l->kM w x):kM w (.mk 3 s l):=by
 have N:=tB w.length O
 have eL:jv (Lg (.mk 3 s l)) w=jv (jV l) w:=jP λu _=>by simp[Lg]
 have e0:jv (λ_=>False) w=jv (jV (l.take 0)) w:=jP λu _=>by simp[jV]
 rw[Uc,e0]at N;have A:=λx U=>H x U;simp only[kM]at A⊢;rw[eL];simp only[aB,bZ,Ex.kind,Ex.label,Ex.kids]at A⊢;refine gE func222 ntmps222 results222 ?_
 (refine ag ?_;intro K hK K hK)
 (revert K;revert K;refine aM N ?_;intro K hK)
 refine aZ (ι:=Nat) 61 (λk=>[(6,.aA 1 (mH (w.length+1) (jv (jV (l.take k)) w)) (w.length+1)),(9,.v (.int .i64 k))]) (λk=>l.length-k) (λk=>k<=l.length) 0 zd ?_ ?_
 ·refine ab (bF ?_) ar ar
  rfl
 ·intro k W K hK
  (revert K;revert K;refine ag ?_;intro K hK K hK K hK)
  refine cn.part (λh=>?_) (λh=>?_)
  ·have q:k<l.length:=by replace h:=qv h;omega
   have eW:=ae (k:=k) zd;have eG:=getD_map aP l k [] q;have HX:=A l[k] (afm q);have J:=rJ w.length (jv (jV (l.take k)) w) (jv (Lg l[k]) w) O
   have eM:jv (λu=>jV (l.take k) u∨Lg l[k] u) w=jv (jV (l.take (k+1))) w:=jP λu _=>by
    rw[agD q,Hf]
   rw[Qf,eM]at J;simp only[aB]at eG
   ((iterate 3 revert K);refine ak eG ?_;iterate 4 intro K hK)
   ((iterate 4 revert K);refine aM HX ?_;iterate 4 intro K hK)
   ((iterate 4 revert K);refine dA J eW ?_)
   exact aw.mk (k+1) zd zd (by exact ab ar ar ar)
  ·have V:l.take k=l:=agH (by replace h:=qv h;omega);simp only[V]
   ((iterate 3 revert K);refine ag ?_)
   exact iE.aA (gJ _ _ _)
theorem RX(w:B0)(q:w.length<=1000)(s:ByteArray)(x:Ex)(H:kM w x):kM w (.mk 6 s [x]):=by
 have N:=tB w.length q;have S:=vz w.length q;have O:=rJ w.length (jv (λu=>u=[]) w) (jv (Lg x) w) q
 have eL:jv (λu=>u=[]∨Lg x u) w=jv (Lg (.mk 6 s [x])) w:=jP λu _=>by simp[Lg,xy]
 rw[Qf,eL]at O;rw[yR]at S;simp only[kM]at H⊢;simp only[aB,bZ,Ex.kind,Ex.label,Ex.kids,List.map_cons,agt,ae0,aeg,aeY]at H⊢;refine gE func222 ntmps222 results222 ?_
 (refine bc ?_;intro K hK K hK)
 (revert K;revert K;refine lG N ?_;intro K hK K hK)
 (revert K;revert K;refine kE S ?_;intro K hK K hK)
 (revert K;revert K;refine kE H ?_;intro K hK K hK)
 (revert K;revert K;refine kE O ?_)
 exact iE.aA (gJ _ _ _)
theorem BS(w:B0)(q:w.length<=1000)(kd:Int)(A:kd=4∨kd=5)(s:ByteArray)(x:Ex)(H:kM w x):kM w (.mk kd s [x]):=by
 have N:=tB w.length q;have S:=vz w.length q;have O:=rJ w.length (jv (λu=>u=[]) w) (jv (Lg x) w) q;have e1:jv (λu=>u=[]∨Lg x u) w=jv (fe (Lg x) 1) w:=jP λu _=>fe.one.symm;rw[Qf,e1]at O;rw[yR]at S;have J:=λk=>rR w.length (jv (fe (Lg x) k) w) (jv (fe (Lg x) k) w) q;have e2:∀k,jv (λu=>∃a b,u=a++b∧fe (Lg x) k a∧fe (Lg x) k b) w=jv (fe (Lg x) (k+k)) w:=λk=>jP λu _=>fe.add.symm;simp only[Dq,e2]at J;have P:=rR w.length (jv (Lg x) w) (jv (dT (Lg x)) w) q
 have Y:jv (λu=>∃a b,u=a++b∧Lg x a∧dT (Lg x) b) w=jv (Lg (.mk 5 s [x])) w:=jP λu _=>by simp[Lg,xy]
 have e4:jv (dT (Lg x)) w=jv (Lg (.mk 4 s [x])) w:=jP λu _=>by
  have:xy [x]=Lg x:=by funext v;rw[xy]
  simp[Lg,this]
 have eP:∀k,w.length<=k->jv (fe (Lg x) k) w=jv (dT (Lg x)) w:=λk A=>jP λu hu=>QE zd;rw[Dq,Y]at P;simp only[kM]at H⊢
 rcases A with rfl|rfl
 all_goals
  simp only[aB,bZ,Ex.kind,Ex.label,Ex.kids,List.map_cons,agt,ae0,aeg,aeY]at H⊢;refine gE func222 ntmps222 results222 ?_
  repeat(first|(with_reducible first|refine bA.up ?_|refineλ(K:AK)hK=>?_|(refine hK _ ?_;clear hK K))|simp only[go_sem]|with_reducible refine wA ?_|clear hK K)
  refine ah.one N ?_
  repeat(first|(with_reducible first|refine bA.up ?_|refineλ(K:AK)hK=>?_|(refine hK _ ?_;clear hK K))|simp only[go_sem]|with_reducible refine wA ?_|clear hK K)
  refine ah.one H ?_
  repeat(first|(with_reducible first|refine bA.up ?_|refineλ(K:AK)hK=>?_|(refine hK _ ?_;clear hK K))|simp only[go_sem]|with_reducible refine wA ?_|clear hK K)
  refine ah.one S ?_
  repeat(first|(with_reducible first|refine bA.up ?_|refineλ(K:AK)hK=>?_|(refine hK _ ?_;clear hK K))|simp only[go_sem]|with_reducible refine wA ?_|clear hK K)
  refine ah.one O ?_
  repeat(first|(with_reducible first|refine bA.up ?_|refineλ(K:AK)hK=>?_|(refine hK _ ?_;clear hK K))|simp only[go_sem]|with_reducible refine wA ?_|clear hK K)
  refine aZ (ι:=Nat) 101 (λk=>[(6,.aA 1 (mH (w.length+1) (jv (fe (Lg x) k) w)) (w.length+1)),(11,.v (.int .i64 k))]) (λk=>w.length-k) (λk=>1<=k∧k<=2*w.length+1) 1 zd ?_ ?_
  ·refine ab (bF ?_) ar ar
   rfl
  ·rintro k ⟨W,V⟩ K hK
   repeat(first|(with_reducible first|refine bA.up ?_|refineλ(K:AK)hK=>?_|(refine hK _ ?_;clear hK K))|simp only[go_sem]|with_reducible refine wA ?_|clear hK K)
   refine cn.part (λh=>?_) (λh=>?_)
   ·have U:k<w.length:=by replace h:=qv h;omega
    have eW:IntKind.i64.wrap (2*(k:Int))=((k+k:Nat):Int):=by rw[bS zd zd];omega
    have Jk:=J k
    repeat(first|(with_reducible first|refine bA.up ?_|refineλ(K:AK)hK=>?_|(refine hK _ ?_;clear hK K))|simp only[go_sem]|with_reducible refine wA ?_|clear hK K)
    refine ah.one Jk ?_
    repeat(first|(with_reducible first|refine bA.up ?_|refineλ(K:AK)hK=>?_|(refine hK _ ?_;clear hK K))|simp only[go_sem,eW]|with_reducible refine wA ?_|clear hK K)
    exact aw.mk (k+k) ⟨zd,zd⟩ zd (by exact ab ar ar ar)
   ·rw[eP k (by replace h:=qv h;omega)]
    repeat(first|(with_reducible first|refine bA.up ?_|refineλ(K:AK)hK=>?_|(refine hK _ ?_;clear hK K))|simp only[go_sem]|with_reducible refine wA ?_|clear hK K)
    first
     |((refine ah.one P ?_);((revert K;revert K;refine ag ?_));(exact iE.aA (gJ _ _ _)))
     |(rw[e4];exact iE.aA (gJ _ _ _))
theorem Xs(w:B0)(u:w.length<=1000){x:Ex}(h:Fit x)(V:(aq x).length<=1000000):kM w x:=by
 induction h with
 |lab s=>exact RW w u s
 |many k s l H hl _ ih=>
  have A:=mj (.mk k s l);simp only[Ex.kids]at A
  have sub:∀y,y∈l->(aq y).length<=1000000:=λy q=>by
   have:=iN (.mk k s l) y (by rw[aq,bO];exact aeX _ (List.mem_flatMap.2 ⟨y,q,by obtain⟨U,s',O⟩:=y;rw[aq];exact List.mem_cons_self⟩))
   omega
  rcases H with rfl|rfl
  ·exact RY w u s l zd (λy q=>ih y q (sub y q))
  ·exact RU w u s l zd (λy q=>ih y q (sub y q))
 |one k s y H _ ih=>
  have sub:(aq y).length<=1000000:=by
   have:=iN (.mk k s [y]) y (by rw[aq,bO];exact aeX _ (List.mem_flatMap.2 ⟨y,zk,by obtain⟨U,s',O⟩:=y;rw[aq];exact List.mem_cons_self⟩))
   omega
  rcases H with rfl|rfl|rfl
  ·exact BS w u 4 (.inl rfl) s y (ih sub)
  ·exact BS w u 5 (.inr rfl) s y (ih sub)
  ·exact RX w u s y (ih sub)
theorem Nr(x:Ex)(w:B0)(H:w.length<=1000)(u:(aq x).length<=1000000)(A:∀z,z∈aq x->z.kids.length<=1000000∧z.label.size<=1000000000000000):aj prog 208 [.agg (aP x),bZ w] (.v (.bool (kR x w))):=by
 have R:=qH x u A
 cases q:aD x
 ·have e:kR x w=false:=by rw[<-Bool.not_eq_true,iK];simp[q]
  rw[q]at R;rw[e];simp only[aB,bZ]at R⊢;refine gE func208 ntmps208 results208 ?_
  (refine ag ?_;intro K hK K hK K hK)
  ((iterate 3 revert K);exact lH R)
 ·have W:=Xs w H (fO q).1 u
  have e:kR x w=jv (Lg x) w 0 w.length:=by
   rw[Bool.eq_iff_iff,iK,fU,Tk.word];simp[q]
  have eA:=vc (N:=w.length+1) (f:=jv (Lg x) w) (i:=0) zd;have eB:=dR (N:=w.length+1) (g:=jv (Lg x) w 0) (j:=w.length) zd;rw[q]at R;rw[e];simp only[kM,aB,bZ]at R W⊢;refine gE func208 ntmps208 results208 ?_
  (refine ag ?_;intro K hK K hK K hK)
  ((iterate 3 revert K);refine aM R ?_;intro K hK K hK)
  (revert K;revert K;exact CH W eA eB)
theorem E0(x:Ex):kR x []=cH x:=by
 rw[Bool.eq_iff_iff,iK,cH,Bool.and_eq_true]
 constructor
 ·rintro⟨h,k⟩;exact⟨h,(iJ (fO h).1).2 k⟩
 ·rintro⟨h,k⟩;exact⟨h,(iJ (fO h).1).1 k⟩
theorem uJ(x:Ex)(u:(aq x).length<=1000000)(q:∀z,z∈aq x->z.kids.length<=1000000∧z.label.size<=1000000000000000):aj prog 173 [.agg (aP x)] (.v (.bool (cH x))):=by
 have T:=(Nr x [] zk u q).le (args':=[.agg (aP x),.v (.slice none 0 0)]) (by simp only[go_sem,fp,agp]) (.cons (.refl _) (.cons (.nil 1) .nil));rw[E0]at T;simp only[aB]at T⊢;refine gE func173 ntmps173 results173 ?_
 (refine ag ?_;intro K hK K hK)
 (revert K;revert K;exact lH T)
theorem Qc(x:Ex)(u:aD x=true):aj prog 174 [.agg (aP x)] (.v (.int .i64 (aI x).length)):=by
 induction x using Ex.ind with
 |h k s l ih=>
  by_cases A:k=1
  ·subst A;rw[aI,if_pos rfl];simp only[aB,Ex.kind,Ex.label,Ex.kids];refine gE func174 ntmps174 results174 ?_;refine ag ?_
   rfl
  ·have f1:(k==1)=false:=beq_false_of_ne A;have H:=u7 u;have O:=oJ u
   have hl:l.length<=24:=by
    simp only[aD,Bool.and_eq_true,decide_eq_true_eq]at u
    have:=mj (.mk k s l);simp only[Ex.kids]at this;omega
   rw[dL A]at H⊢;simp only[aB,Ex.kind,Ex.label,Ex.kids];refine gE func174 ntmps174 results174 ?_
   (refine ak f1 ?_;intro K hK)
   refine b7 (ι:=Nat) (λi=>[(1,.ptr 0 0 3 0 0),(3,.v (.int .i64 (aV (l.take i)).length)),(4,.v (.int .i64 i))]) (λi=>[some ⟨25,3,false,[[.v (.int .i64 k),.v (.string s),.aA 3 (l.map aP) l.length]]⟩]) (λi=>l.length-i) (λi=>i<=l.length) 0 zd ?_ ?_
   ·refine ab (bF ?_) ar ar;exact⟨rfl,rfl⟩
   ·intro i hi K hK;simp only[bN,List.foldl_cons,List.foldl_nil,List.replicate_succ,List.replicate_zero,go_sem]
    (revert K;revert K;refine ag ?_;intro K hK K hK K hK)
    refine cn.part (λh=>?_) (λh=>?_)
    ·have q:i<l.length:=by replace h:=cq h;omega
     have eW:=ae (k:=i) zd;have eG:=getD_map aP l i [] q;have HX:=ih l[i] (afm q) (O _ (afm q))
     have U:(aV (l.take (i+1))).length=(aV (l.take i)).length+(aI l[i]).length:=by
      rw[agD q,jK,List.length_append];simp[aV]
     have W:(aV l).length=(aV (l.take (i+1))).length+(aV (l.drop (i+1))).length:=by rw[<-List.length_append, <- jK,List.take_append_drop]
     have eS:IntKind.i64.wrap (((aV (l.take i)).length:Int)+((aI l[i]).length:Int))=((aV (l.take (i+1))).length:Int):=by rw[bS zd zd,U];omega
     simp only[aB]at HX eG
     ((iterate 3 revert K);refine ak eG ?_;iterate 4 intro K hK)
     ((iterate 4 revert K);refine dA HX eS ?_)
     exact aw.mk (i+1) zd zd (by refine ab (bF ?_) ar ar;exact eW)
    ·have V:l.take i=l:=agH (by replace h:=cq h;omega);simp only[V]
     ((iterate 3 revert K);exact s8)
def pb(a b:Nat->Bool)(i q:Nat):Bool:=decide (q<i)&&(a q||b q)
theorem AH(a b:Nat->Bool)(i:Nat):(λq=>if q=i then(a i||b i)else pb a b i q)=pb a b (i+1):=by
 funext q
 rw[pb,pb]
 split
 ·rename_i h;subst h;simp
 ·rename_i h
  congr 1;rw[decide_eq_decide];omega
theorem ye(N:Nat)(a b:Nat->Bool)(hn:N<=1000):aj prog 176 [.aA 1 (dK N a) N,.aA 1 (dK N b) N] (.aA 1 (dK N (λq=>a q||b q)) N):=by
 refine gE func176 ntmps176 results176 ?_
 have e0:List.replicate N [AV.v (.bool false)]=dK N (pb a b 0):=by rw[lz];exact oO λq _=>by simp[pb]
 repeat(first|(with_reducible first|refine bA.up ?_|refineλ(K:AK)hK=>?_|(refine hK _ ?_;clear hK K))|simp only[go_sem,e0]|with_reducible refine wA ?_|clear hK K)
 refine aN (ι:=Nat) 10 (λi=>[(6,.v (.int .i64 i))]) (λi=>[some ⟨4,1,true,dK N (pb a b i)⟩]) (λi=>N-i) (λi=>i<=N) 0 zd ?_ ?_
 ·refine ab (bF ?_) ar ar
  rfl
 ·intro i hi K hK
  (revert K;revert K;refine ag ?_;intro K hK K hK K hK)
  refine cn.part (λh=>?_) (λh=>?_)
  ·have u:i<N:=by replace h:=qv h;omega
   have eW:=ae (k:=i) zd;have eA:=dR (g:=a) u;have eB:=dR (g:=b) u;have eR:=dR (g:=pb a b i) u;have eS:=λv=>tZ (N:=N) (j:=i) (g:=pb a b i) (v:=v);have eU:=AH a b i;cases A:a i
   all_goals
    simp only[A,Bool.false_or,Bool.true_or]at eU
    repeat(first|(with_reducible first|refine bA.up ?_|refineλ(K:AK)hK=>?_|(refine hK _ ?_;clear hK K))|simp only[go_sem,eW,eA,eB,A,eR,eS,eU,Go.undef]|with_reducible refine wA ?_|clear hK K)
    exact aw.mk (i+1) zd zd (by exact ab ar ar ar)
  ·have O:i=N:=by replace h:=qv h;omega
   have eE:dK N (pb a b N)=dK N (λq=>a q||b q):=oO λq H=>by simp[pb,H]
   simp only[O]
   ((iterate 3 revert K);refine ag ?_)
   rw[eE]
   (refine iE.of 40 rfl ?_;simp only[go_sem])
def lg(N:Nat)(g:Nat->Bool):Do:=((List.range N).filter g).map (· + 1)
theorem Nk(N:Nat)(g:Nat->Bool):lg (N+1) g=lg N g++(if g N then [N+1]else []):=by
 rw[lg,List.range_succ,List.filter_append,List.map_append, <- lg]
 congr 1
 cases h:g N<;>simp[h]
theorem Re(N:Nat)(g:Nat->Bool):(lg N g).length<=N:=by
 rw[lg,List.length_map];exact Nat.le_trans (List.length_filter_le _ _) zk
theorem zy{N:Nat}{g:Nat->Bool}{p:Nat}:p∈lg N g↔1<=p∧p<=N∧g (p-1)=true:=by
 rw[lg,List.mem_map]
 constructor
 ·rintro⟨q,u,rfl⟩;rw[List.mem_filter,List.mem_range]at u;exact⟨zd,zd,by simpa using u.2⟩
 ·rintro⟨O,H,A⟩;exact⟨p-1,List.mem_filter.2 ⟨List.mem_range.2 zd,A⟩,zd⟩
theorem BF(N:Nat)(g:Nat->Bool):(lg N g).Pairwise (· < ·):=by
 rw[lg,List.pairwise_map];exact(List.pairwise_lt_range.filter _).imp (λh=>zd)
theorem UP(N:Nat)(g:Nat->Bool)(hn:N<=1000):aj prog 177 [.aA 1 (dK N g) N] (.aA 1 (aT (lg N g)) (lg N g).length):=by
 refine gE func177 ntmps177 results177 ?_
 (refine ag ?_;intro K hK)
 refine fN (ι:=Nat) 3 3 1 rfl zd 5 (λi=>[(3,.vec 0 (lg i g).length),(4,.v (.int .i64 i))]) (λi=>[some ⟨3,1,true,aT (lg i g)⟩]) (λi=>N-i) (λi=>i<=N) 0 zd ?_ ?_
 ·refine ab (bF ?_) (bF ?_) ar
  ·exact⟨rfl,rfl⟩
  ·rfl
 ·intro i hi K hK
  have eLn:(aT (lg i g)).length=(lg i g).length:=by simp[aT]
  have A:=Re i g
  (revert K;revert K;refine ag ?_;intro K hK K hK K hK)
  refine cn.part (λh=>?_) (λh=>?_)
  ·have u:i<N:=by replace h:=qv h;omega
   have eW:=ae (k:=i) zd;have eA:=dR (g:=g) u;have eS:=Nk i g
   cases q:g i
   ·simp only[q,Bool.false_eq_true,if_false,List.append_nil]at eS
    ((iterate 3 revert K);refine ak (mQ eW eA q) ?_)
    refine aw.mk (i+1) zd zd ?_;rw[eS];exact ab ar ar ar
   ·simp only[q,if_true]at eS
    ((iterate 3 revert K);refine ak (pt eW eA q eLn) ?_)
    refine aw.mk (i+1) zd zd ?_;rw[eS];refine ab ar (bF ?_) ar;simp[aT]
  ·have H:i=N:=by replace h:=qv h;omega
   simp only[H]
   ((iterate 3 revert K);refine ag ?_)
   exact iE.vec (ob:=⟨3,1,true,aT (lg N g)⟩) rfl rfl (by simp[aT]) (bt _ (λ_=>rfl) _)
def pf(k:Nat)(x:Ex)(nl n:Nat):C5:=[.vec (k+1) nl,.v (.slice none 0 0),.v (.slice none 0 0),.vec (k+2) n,.v (.bool (cH x)),.v (.int .i64 x.kind),.v (.string x.label),.aA 3 (x.kids.map aP) x.kids.length]
def dt(k:Nat)(x:Ex)(labs:B0)(n:Nat)(f:GT):AC:=
 some ⟨221,8,false,[pf k x labs.length n]⟩ ::some ⟨9,1,true,labs.map encS⟩ ::cA (k+2) n n f
theorem MF{N m i:Nat}{f:GT}{b c x:Option aa}(h:i<m):(b::c::x::bB N f m)[nf 2 i]?=some (ma N (f i)):=by
 rw[show nf 2 i=nf 0 i+1+1 by unfold nf;omega,afs,afs];exact mU (k:=0) h
theorem MH{N m i j:Nat}{f:GT}{v:Bool}{b c x:Option aa}(h:i<m):(b::c::x::bB N f m).set (nf 2 i) (some ⟨4,1,true,(dK N (f i)).set j [.v (.bool v)]⟩)=b::c::x::bB N (oP f i j v) m:=by
 rw[show nf 2 i=nf 0 i+1+1 by unfold nf;omega,afG,afG,pT h]
theorem cC(k:Nat)(x:Ex)(labs:B0)(n:Nat)(f:GT):(dt k x labs n f).length=2*n+3:=by
 rw[dt,ae0,ae0,jh]
theorem U9{k n nl m:Nat}{x:Ex}(h:k+3<=m):aQ m (pf k x nl n)=true:=by
 have u:k+1<m:=zd
 have q:k+2<m:=zd
 simp[pf,aQ,AV.wf,bI,u,q]
theorem lj{m:Nat}{x:Ex}{labs:B0}{n:Nat}{f:GT}(h:2*n+3<=m):∀ob,some ob∈dt 0 x labs n f->bE m ob.rows=true:=λob q=>by
 rw[dt,afO,afO]at q
 rcases q with e|e|q
 ·cases e;simp only[bE,U9 (show 0+3<=m by omega),agp]
 ·cases e;exact bz _ _
 ·rw[cA,afO]at q
  rcases q with e|q
  ·cases e;exact l6 zd
  ·exact qh _ _ _ _ _ q
theorem aaD{m:Nat}{x:Ex}{labs:B0}{n:Nat}{f:GT}(h:2*n+3<=m):zU m (dt 0 x labs n f) (dt 0 x labs n f):=by
 have:=oU (n:=m) (a:=[]) (b:=[]) (l:=dt 0 x labs n f) (lj h) trivial
 simpa using this
def kU(f:GT)(la fi:Nat->Bool)(i j p q:Nat):Bool:=f p q||(decide (p<i∨(p=i∧q<j))&&(la p&&fi q))
theorem Wx(f:GT)(la fi:Nat->Bool):f=kU f la fi 0 0:=by funext p q;simp[kU]
theorem MB{f:GT}{la fi:Nat->Bool}{i j:Nat}:(if la i&&fi j then oP (kU f la fi i j) i j true else kU f la fi i j)=kU f la fi i (j+1):=by
 funext p q
 split
 ·rename_i h;rw[oP]
  split
  ·rename_i e;obtain⟨rfl,rfl⟩:=e;simp[kU,h]
  ·rename_i e;rw[kU,kU];congr 2;rw[decide_eq_decide];omega
 ·rename_i h;rw[kU,kU]
  by_cases e:p=i∧q=j
  ·obtain⟨rfl,rfl⟩:=e
   have u:(la p&&fi q)=false:=by simpa using h
   rw[u];simp
  ·congr 2;rw[decide_eq_decide];omega
theorem MA{f:GT}{la fi:Nat->Bool}{N i:Nat}:bB N (kU f la fi i N) N=bB N (kU f la fi (i+1) 0) N:=gP λp q A u=>by
 rw[kU,kU];congr 2;rw[decide_eq_decide];omega
theorem BW{t q:C5}{y:kB}{x:Ex}{labs:B0}{n:Nat}{f f0:GT}(h:iT (2*n+3) t q):Wk (dt 0 x labs n f0).length ⟨t,dt 0 x labs n f,y⟩ ⟨q,dt 0 x labs n f,y⟩:=
 ab (by rw[cC];exact h) (by rw[cC];exact aaD (aed _)) (by rw[cC,cC];exact aed _)
theorem FI(x:Ex)(labs:B0)(n:Nat)(hn:n<=1000)(f:GT)(la fi:Nat->Bool) :
  bT prog 209 [.ptr 0 0 8 0 0,.aA 1 (dK n la) n,.aA 1 (dK n fi) n] (dt 0 x labs n f) (.ck []) (dt 0 x labs n (λp q=>f p q||(la p&&fi q))):=by
 have H:decide (0<2*n+3)=true:=b0;refine gF func209 ntmps209 results209 ?_;refine ag ?_
 refine aN (ι:=Nat) 8 (λi=>[(6,.v (.int .i64 i)),(7,.undef)]) (λi=>dt 0 x labs n (kU f la fi i 0)) (λi=>n-i) (λi=>i<=n) 0 zd ?_ ?_
 ·rw[<-Wx];refine BW ?_;simp only[go_sem,iT,true_or,or_true,true_and,and_true,H];exact .inr rfl
 ·intro i hi K hK
  (revert K;refine ag ?_;intro K hK K hK)
  refine cn.part (λh=>?_) (λh=>?_)
  ·have u:i<n:=by replace h:=qv h;omega
   have eW:=ae (k:=i) zd;have eO:=lM (k:=2) (N:=n) u;have eA:=dR (g:=la) u
   (revert K;revert K;refine ag ?_;intro K hK K hK)
   refine aN (ι:=Nat) 14 (λj=>[(7,.v (.int .i64 j))]) (λj=>dt 0 x labs n (kU f la fi i j)) (λj=>n-j) (λj=>j<=n) 0 zd ?_ ?_
   ·refine BW ?_;simp only[go_sem,iT,true_or,or_true,true_and,and_true,H];exact .inr rfl
   ·intro j hj K hK
    ((iterate 3 revert K);refine ag ?_;iterate 4 intro K hK)
    refine cn.part (λh=>?_) (λh=>?_)
    ·have O:j<n:=by replace h:=qv h;omega
     have eV:=ae (k:=j) zd;have eB:=dR (g:=fi) O;have eU:=MB (f:=f) (la:=la) (fi:=fi) (i:=i) (j:=j)
     rcases Bool.eq_false_or_eq_true (la i&&fi j)with A|A
     ·rw[A]at eU;simp only[if_true]at eU;obtain⟨U,h2⟩:=Bool.and_eq_true_iff.1 A;have Y:∀b c y,(b::c::y::bB n (kU f la fi i j) n)[nf 2 i]? = _:=λb c y=>MF (b:=b) (c:=c) (x:=y) u;have eR:=dR (g:=kU f la fi i j i) O;have eS:=λb c y v=>MH (N:=n) (j:=j) (f:=kU f la fi i j) (v:=v) (b:=b) (c:=c) (x:=y) u;simp only[dt,cA,pf,aeY]
      repeat(first|(with_reducible first|refine bA.up ?_|refineλ(K:AK)hK=>?_|(refine hK _ ?_;clear hK K))|simp only[go_sem,eV,eA,eB,U,h2,eO,Y,ma,eR,eS,eU,Go.undef]|with_reducible refine wA ?_|clear hK K)
      refine aw.mk (j+1) zd zd (BW ?_);simp only[go_sem,iT,true_or,or_true,true_and,and_true,H,bp,AV.wf]
     ·rw[A]at eU;simp only[Bool.false_eq_true,if_false]at eU
      cases U:la i
      ·((iterate 4 revert K);refine dj (pt eV eA eB U) ?_)
       rw[eU];refine aw.mk (j+1) zd zd (BW ?_);simp only[go_sem,iT,true_or,or_true,true_and,and_true,H,bp,AV.wf]
      ·rw[U,afi]at A
       ((iterate 4 revert K);refine dj (qu eV eA eB U A) ?_)
       rw[eU];refine aw.mk (j+1) zd zd (BW ?_);simp only[go_sem,iT,true_or,or_true,true_and,and_true,H,bp,AV.wf]
    ·have V:j=n:=by replace h:=qv h;omega
     have eN:dt 0 x labs n (kU f la fi i n)=dt 0 x labs n (kU f la fi (i+1) 0):=by rw[dt,dt,cA,cA,MA]
     simp only[V];rw[eN]
     ((iterate 4 revert K);refine ak eW ?_)
     refine aw.mk (i+1) zd zd (BW ?_);simp only[go_sem,iT,true_or,or_true,true_and,and_true,H,bp,AV.wf]
  ·have V:i=n:=by replace h:=qv h;omega
   have eN:dt 0 x labs n (kU f la fi n 0)=dt 0 x labs n (λp q=>f p q||(la p&&fi q)):=by
    rw[dt,dt,cA,cA,gP (g:=kU f la fi n 0) (h:=λp q=>f p q||(la p&&fi q)) (λp q W _=>by simp[kU,W])]
   simp only[V];rw[eN]
   (revert K;revert K;refine ag ?_)
   refine⟨⟨.inr ⟨rfl,rfl⟩,trivial⟩,aaD (by rw[cC];exact aed _),by rw[cC,cC];exact aed _⟩
end Go.Proofs.YtlhhccmopfamhaaGreatDoor
