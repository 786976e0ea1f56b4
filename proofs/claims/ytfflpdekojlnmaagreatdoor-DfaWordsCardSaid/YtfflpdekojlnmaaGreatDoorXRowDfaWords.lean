/- 'kinescopelaw09.DfaWords': for every input the call returns true and all read behind it as before. Three tables (two of math/bits, one of internal/strconv) are laid, and tied to the program's text. No condition beyond the row's own: the reading ends, and no text or slice that came in is longer than the form's reach. -/
import Derived.Test.YtfflpdekojlnmaaGreatDoorXOpenX
import Derived.Test.YtfflpdekojlnmaaGreatDoorXLaw07
import Derived.Sort.Walk0
import Derived.Test.YtfflpdekojlnmaaGreatDoorXPart09
import Derived.StillTailTactics
import Derived.Test.YtfflpdekojlnmaaGreatDoorXFen
import Derived.Test.YtfflpdekojlnmaaGreatDoorXLens
import Derived.Test.YtfflpdekojlnmaaGreatDoorXAbsV
import Derived.Test.YtfflpdekojlnmaaGreatDoorXDfaD
import Derived.Test.YtfflpdekojlnmaaGreatDoorRows
import Derived.Test.YtfflpdekojlnmaaGreatDoorCards
import Derived.Test.YtfflpdekojlnmaaGreatDoorTie
import Derived.Test.YtfflpdekojlnmaaGreatDoorXDfaR
import Derived.WalkKit
import Derived.ProofKit
import Derived.OpenShut
import Derived.Stop.Joined
import Derived.SevenTiedAt
import Derived.Carry
set_option linter.unusedSimpArgs false
set_option linter.unusedVariables false
set_option maxRecDepth 100000
set_option maxHeartbeats 16000000
open List renaming mem_append -> V4, mem_singleton -> V3, getElem_mem -> Vx, length_map -> U2, getElem?_eq_none -> Uv, getD_eq_getElem?_getD -> U3, getElem?_map -> Ut, getElem?_eq_getElem -> Uq, map_append -> V7, length_cons -> Uh, length_nil -> Ub, cons_append -> VK, nil_append -> VJ, drop_succ_cons -> Wz, drop_zero -> WA, take_succ_eq_append_getElem -> Wg, length_append -> Ug, length_singleton -> V9, take_length -> WR, set_cons_zero -> VR, set_cons_succ -> VQ, length_take -> UB, all_eq_true -> Vj, take_of_length_le -> Wl
open Nat renaming zero_le -> Ui, zero_lt_succ -> WE, lt_succ_iff_lt_or_eq -> W8
open Option renaming toList_some -> W6, getD_none -> WK, isSome_none -> WL, getD_some -> Wb, isSome_some -> WN
open Int renaming toNat_natCast -> W7
open Bool renaming eq_false_or_eq_true -> VT, not_true -> W9, not_false -> Xa
open Option.some renaming inj -> T6
namespace Go.Proofs.YtfflpdekojlnmaaGreatDoor
open Go.RowKit
def Ox (a b:ByteArray):Bool:=Op.bytesLess a.toList b.toList
theorem C0 {a b:ByteArray}:Ox a b=true↔a.data.toList<b.data.toList:=by
 rw [Ox,bytesLess_eq,decide_eq_true_eq,ByteArray.toList_eq,ByteArray.toList_eq]
def bZ (l:List ByteArray):List ByteArray:=(Go.Lib.compact ((l.map (fun s=>s.data.toList)).mergeSort (fun x y=>decide (x<=y)))).map (fun l=>⟨l.toArray⟩)
theorem BQ (x:Ex):bZ (aB x)=bW x:=rfl
theorem jr (l:List ByteArray):iJ (bZ l):=by
 rw [iJ,bZ,List.pairwise_map]
 exact (j6 _).1.imp fun h=>by simpa using h
theorem gK {l:List ByteArray} {s:ByteArray}:s∈bZ l↔s∈l:=by
 rw [bZ,List.mem_map]
 constructor
 ·rintro ⟨l,h,rfl⟩
  have:=((j6 _).2 l).1 h
  obtain ⟨t,h1,rfl⟩:=List.mem_map.1 this;simpa using h1
 ·intro h;exact ⟨s.data.toList,((j6 _).2 _).2 (List.mem_map_of_mem h),by simp⟩
theorem Fi (l:List ByteArray):(bZ l).length<=l.length:=(lf (jr l)).length_le_of_subset fun _ h=>gK.1 h
theorem Fj:bZ []=[]:=by
 cases h:bZ [] with
 | nil=>rfl
 | cons a l=>
  have:a∈bZ []:=by rw [h];exact List.mem_cons_self
  exact absurd (gK.1 this) (by simp)
structure JY (l:List ByteArray) (s:ByteArray) (k:Nat):Prop where
 le:k<=l.length
 lo: ∀(j:Nat) (h:j<l.length),j<k->Ox l[j] s=true
 hi: ∀h:k<l.length,Ox l[k] s=false
theorem EE {L:List ByteArray} {s:ByteArray} {k:Nat} (hk:k<(bZ L).length) (e:(bZ L)[k]=s):bZ L=bZ (L++[s]):=by
 refine kp (jr _) (jr _) fun t=> ?_;rw [gK,gK,V4,V3];refine ⟨.inl,fun h=> ?_⟩
 rcases h with h|rfl
 ·exact h
 ·rw [<-e];exact gK.1 (Vx hk)
theorem KQ {L:List ByteArray} {s:ByteArray} {k:Nat} (h:JY (bZ L) s k) (hne: ∀hk:k<(bZ L).length,(bZ L)[k]≠s):(bZ L).take k++s :: (bZ L).drop k=bZ (L++[s]):=by
 have R:=jr L
 refine kp ?_ (jr _) fun t=> ?_
 ·rw [iJ,List.pairwise_append,List.pairwise_cons]
  have lo: ∀a∈(bZ L).take k,a.data.toList<s.data.toList:=fun a ha=>by
   obtain ⟨j,hj,rfl⟩:=List.getElem_of_mem ha;rw [List.length_take] at hj;rw [List.getElem_take];exact C0.1 (h.lo j (by omega) (by omega))
  have hi: ∀a∈(bZ L).drop k,s.data.toList<a.data.toList:=fun a ha=>by
   obtain ⟨j,hj,rfl⟩:=List.getElem_of_mem ha;rw [List.length_drop] at hj;rw [List.getElem_drop]
   have hk:k<(bZ L).length:=by omega
   have h1: ¬(bZ L)[k].data.toList<s.data.toList:=fun q=>by
    have:=h.hi hk;rw [C0.2 q] at this;cases this
   have h2:s.data.toList<(bZ L)[k].data.toList:=by
    refine Classical.byContradiction fun q=>hne hk ?_
    have:=List.le_antisymm (List.not_lt.1 q) (List.not_lt.1 h1)
    exact ByteArray.ext (Array.toList_inj.1 this)
   cases j with
   | zero=>exact h2
   | succ j=>exact List.lt_trans h2 (List.pairwise_iff_getElem.1 R k (k+(j+1)) hk (by omega) (by omega))
  exact ⟨R.sublist (List.take_sublist _ _),⟨fun a ha=>hi a ha,R.sublist (List.drop_sublist _ _)⟩,fun a ha b hb=>by
   rcases List.mem_cons.1 hb with rfl|hb
   ·exact lo a ha
   ·exact List.lt_trans (lo a ha) (hi b hb)⟩
 ·rw [gK,V4,V4,List.mem_cons,V3]
  have:t∈L↔t∈(bZ L).take k∨t∈(bZ L).drop k:=by
   rw [<-gK, <- V4,List.take_append_drop]
  rw [this]
  constructor
  ·rintro (h|h|h)
   ·exact .inl (.inl h)
   ·exact .inr h
   ·exact .inl (.inr h)
  ·rintro ((h|h)|h)
   ·exact .inl h
   ·exact .inr (.inr h)
   ·exact .inr (.inl h)
theorem Da {rows:List aR}: ∀(f:Nat) {part:List Nat} {many:Nat},(∀s,s<rows.length->part.getD s 0<rows.length)-> ∀s,s<rows.length->(nh rows f part many).getD s 0<rows.length
 | 0,part,many,h=>by rw [nh];exact h
 | f+1,part,many,h=>by
  have hN: ∀s,s<rows.length->(dJ rows part).getD s 0<rows.length:=fun s hs=>Nat.lt_of_lt_of_le (jq rows hs) (mj rows part);rw [nh]
  split
  ·exact hN
  ·exact Da f hN
theorem Fa {rows:List aR} {ends:List Bool} {s:Nat} (hs:s<rows.length):(br rows ends).getD s 0<rows.length:=by
 have hN: ∀s,s<rows.length->(dJ rows (p0 ends)).getD s 0<rows.length:=fun s hs=>Nat.lt_of_lt_of_le (jq rows hs) (mj rows (p0 ends));rw [br,show rows.length+2=(rows.length+1)+1 from rfl,nh]
 split
 ·exact hN s hs
 ·exact Da _ hN s hs
def zA (part order:List Nat) (n:Nat):List Int:=(List.range n).map (fun p=>match iA part order p with
 | some k=>(k:Int)
 | none=> -1)
theorem mi (part order:List Nat) (n:Nat):(zA part order n).length=n:=by simp [zA]
theorem rn {part order:List Nat} {n p:Nat} (h:p<n):(zA part order n)[p]? = some (match iA part order p with
 | some k=>(k:Int)
 | none=> -1):=by rw [zA,List.getElem?_map,List.getElem?_range h];rfl
theorem Fe (part order:List Nat) (t x:Nat):iA part (order++[t]) x=match iA part order x with
 | some k=>some k
 | none=>if x=part.getD t 0 then some order.length else none:=by
 rw [iA,List.map_append,List.findIdx?_append];rw [iA]
 cases (order.map (fun s=>part.getD s 0)).findIdx? (fun y=>x==y) with
 | some k=>rfl
 | none=>
  simp only [List.map_cons,List.map_nil,List.findIdx?_cons,List.findIdx?_nil,Option.none_or,U2]
  by_cases h:x=part.getD t 0
  ·rw [if_pos h,beq_iff_eq.2 h];simp
  ·rw [if_neg h,beq_eq_false_iff_ne.2 h];simp
theorem Ik {part order:List Nat} {n t:Nat} (hn:iA part order (part.getD t 0)=none) (hp:part.getD t 0<n):(zA part order n).set (part.getD t 0) (order.length:Int)=zA part (order++[t]) n:=by
 refine List.ext_getElem? fun i=> ?_
 by_cases hi:i<n
 ·rw [rn hi,Fe]
  by_cases e:part.getD t 0=i
  ·subst e;rw [List.getElem?_set_self (by rw [mi];exact hi),hn];simp
  ·rw [List.getElem?_set_ne e,rn hi]
   cases iA part order i with
   | some k=>rfl
   | none=>simp only [if_neg (fun q=>e (Eq.symm q))]
 ·rw [Uv (by rw [List.length_set,mi];omega),Uv (by rw [mi];omega)]
theorem E3 (part:List Nat) (n:Nat):zA part [] n=List.replicate n (-1):=by
 refine List.ext_getElem? fun i=> ?_
 by_cases hi:i<n
 ·rw [rn hi,List.getElem?_replicate,if_pos hi];rfl
 ·rw [Uv (by rw [mi];omega),Uv (by rw [List.length_replicate];omega)]
def BT (part:List Nat) (row:aR) (labs:List ByteArray) (order:List Nat):List Nat:=labs.foldl (fun o l=>xN part o (look row l)) order
theorem zS (part:List Nat) (row:aR) (labs:List ByteArray) (l:ByteArray) (order:List Nat):BT part row (labs++[l]) order=xN part (BT part row labs order) (look row l):=by rw [BT,List.foldl_append];rfl
theorem NW {part:List Nat} {row:aR} {n:Nat} {order:List Nat} (hn:(order.map (fun s=>part.getD s 0)).Nodup) (hl: ∀s∈order,s<n) (hT: ∀p∈row,p.2<n): ∀labs:List ByteArray,
  ((BT part row labs order).map (fun s=>part.getD s 0)).Nodup∧(∀s∈BT part row labs order,s<n)∧ ∃t,BT part row labs order=order++t:=by
 refine fg ⟨hn,hl,[],by simp [BT]⟩ ?_;rintro labs l ⟨h1,h2,t,h3⟩;rw [zS]
 cases hq:look row l with
 | none=>exact ⟨h1,h2,t,h3⟩
 | some u=>
  rw [xN]
  cases hp:iA part (BT part row labs order) (part.getD u 0) with
  | some k=>exact ⟨h1,h2,t,h3⟩
  | none=>
   refine ⟨?_,fun s hs=> ?_,t++[u],by rw [h3,List.append_assoc]⟩
   ·simp only [List.map_append,List.map_cons,List.map_nil];rw [List.nodup_append];refine ⟨h1,by simp,fun a ha b hb=> ?_⟩;rw [V3] at hb;rintro rfl;exact (vK part).1 hp (hb ▸ ha)
   ·rcases V4.1 hs with hs|hs
    ·exact h2 s hs
    ·rw [V3] at hs;subst hs;exact hT _ (dy hq)
theorem By (x:Ex): ∀(L:List ByteArray),ay x=true->L.length+(aB x).length<=1000->ar Tryz.prog 68 [.agg (aS x),aZ (bZ L)] (aZ (bZ (L++aB x))):=by
 induction x using Ex.ind with
 | h kd s l ih=>
  intro L hr hN;have hRL:=Fi L
  have hF:(aZ (bZ (L++aB (.mk kd s l)))).wf 0=true:=by simp only [aZ,AV.wf,bm]
  have hA:aX 0 [AV.agg (aS (.mk kd s l)),aZ (bZ L)]=true:=by simp only [aZ,aX,AV.wf,fe,bm,Bool.and_self]
  by_cases hk:kd=1
  ·subst hk
   have eL:aB (.mk 1 s l)=[s]:=by rw [aB,if_pos rfl]
   rw [eL] at hF hN ⊢;have hT:=fun k (q:k<(bZ L).length) (e:(bZ L)[k]=s)=>EE q e;have hI:=fun k (q:JY (bZ L) s k) h=>KQ q h;generalize hrv:aZ (bZ (L++[s]))=rv at hF ⊢;generalize bZ L=m at *;simp only [List.length_append,List.length_singleton] at hN;simp only [aD,aZ,Ex.kind,Ex.label,Ex.kids] at hA hrv ⊢
   (refine ar.l5 Tryz.func68 rfl (by kernel_rfl) (by kernel_rfl) rfl hA hF ?_;simp only [Tryz.ntmps68,Tryz.results68,List.length_cons,List.length_nil,Nat.reduceAdd,Nat.reduceSub,List.replicate_succ,List.replicate_zero,List.cons_append,List.nil_append])
   (refine lu ?_;intro K hK K hK)
   refine bo (ι:=Nat) 8 (fun k=>[(5, .v (.int .i64 k))]) (fun k=>m.length - k) (fun k=>k<=m.length∧ ∀(j:Nat) (h:j<m.length),j<k->Ox m[j] s=true) 0 ⟨Nat.zero_le _,fun j _ h=>absurd h (Nat.not_lt_zero _)⟩ ?_ ?_
   ·refine bp ?_ aj
    all_goals rfl
   ·rintro k ⟨hk,hlo⟩ K hK;have eW:=ak (k:=k) (by omega)
    have fin: ∀(h:JY m s k),(∀q:k<m.length,m[k]≠s)->AV.aC 1 ((m.take k).map encS++([AV.v (.string s)] :: (m.drop k).map encS)) (k+(m.length - k+1))=rv:=fun h hne=>by
     have e:=hI k h hne
     have el:(k+(m.length - k+1))=(bZ (L++[s])).length:=by rw [<-e];simp;omega
     rw [<-hrv,el, <- e];simp [encS]
    have r1:((m.map encS).drop k).take (m.length - k)=(m.drop k).map encS:=by
     rw [<-List.map_drop];exact List.take_of_length_le (by simp)
    have r2:(m.drop k).length=m.length - k:=by simp
    have r3:(m.map encS).take k=(m.take k).map encS:=by rw [List.map_take]
    have r4:(m.take k).length=k:=by simp;omega
    by_cases d1:k<m.length
    ·have e1:decide ((k:Int)<(m.length:Int))=true:=decide_eq_true (by omega);have eG:=getD_map encS m k [] d1;simp only [encS] at eG
     cases e2:Ox m[k] s
     ·have hin:JY m s k:=⟨hk,hlo,fun _=>e2⟩;have e3:Op.bytesLess m[k].toList s.toList=false:=e2
      by_cases he:m[k]=s
      ·have f1:(m[k].toList==s.toList)=true:=by rw [he];simp
       have hrr:=hT k d1 he
       repeat (first|(with_reducible first|refine aA.up ?_|refine fun (K:AK) hK=> ?_|refine wD ?_|refine ae (by decide) ?_|refine ah (by decide) ?_|(refine hK _ ?_;clear hK K))|simp only [go_sem,e1,eG,e3,f1,Go.undef]|with_reducible refine wA ?_|(refine ck rfl ?_)|clear hK K)
       rw [<-hrv, <- hrr];exact bH.uD (bm 0 _)
      ·have f1:(m[k].toList==s.toList)=false:=by
        cases hh:(m[k].toList==s.toList)
        ·rfl
        ·exact absurd (toList_inj.1 hh) he
       have hf:=fin hin fun _=>he
       repeat ((fail_if_success (with_reducible refine bB (i:=7) ?_));first|(with_reducible first|refine aA.up ?_|refine fun (K:AK) hK=> ?_|refine wD ?_|refine ae (by decide) ?_|refine ah (by decide) ?_|(refine hK _ ?_;clear hK K))|simp only [go_sem,e1,eG,e3,f1,Go.undef]|with_reducible refine wA ?_|(refine ck rfl ?_)|clear hK K)
       refine bV [2,6] [(5,0)] (by decide+kernel) (by kernel_rfl) ?_
       repeat (first|(with_reducible first|refine aA.up ?_|refine fun (K:AK) hK=> ?_|refine ae (by decide) ?_|refine ah (by decide) ?_|(refine hK _ ?_;clear hK K))|simp only [go_sem,r1,r2,r3,r4,U2]|with_reducible refine wA ?_|(refine ck rfl ?_)|clear hK K)
       rw [<-hf];exact bH.Ae (ob:=⟨9,1,true,(m.take k).map encS++([AV.v (.string s)] :: (m.drop k).map encS)⟩) rfl rfl (by simp;omega) (by rw [iZ,bm];exact bm 0 (s :: m.drop k))
     ·have e3:Op.bytesLess m[k].toList s.toList=true:=e2
      repeat (first|(with_reducible first|refine aA.up ?_|refine fun (K:AK) hK=> ?_|refine wD ?_|refine ae (by decide) ?_|refine ah (by decide) ?_|(refine hK _ ?_;clear hK K))|simp only [go_sem,e1,eG,e3,Go.undef]|with_reducible refine wA ?_|(refine ck rfl ?_)|clear hK K)
      refine u6 eW ?_
      exact az.mk (k+1) ⟨d1,fun j hj hjk=>by
       rcases Nat.lt_succ_iff_lt_or_eq.1 hjk with q|rfl
       ·exact hlo j hj q
       ·exact e2⟩ (by omega) (by exact aO aj)
    ·have e1:decide ((k:Int)<(m.length:Int))=false:=decide_eq_false (by omega);have hf:=fin ⟨hk,hlo,fun h=>absurd h d1⟩ fun h=>absurd h d1
     repeat ((fail_if_success (with_reducible refine bB (i:=7) ?_));first|(with_reducible first|refine aA.up ?_|refine fun (K:AK) hK=> ?_|refine wD ?_|refine ae (by decide) ?_|refine ah (by decide) ?_|(refine hK _ ?_;clear hK K))|simp only [go_sem,e1,Go.undef]|with_reducible refine wA ?_|(refine ck rfl ?_)|clear hK K)
     refine bV [2,6] [(5,0)] (by decide+kernel) (by kernel_rfl) ?_
     repeat (first|(with_reducible first|refine aA.up ?_|refine fun (K:AK) hK=> ?_|refine ae (by decide) ?_|refine ah (by decide) ?_|(refine hK _ ?_;clear hK K))|simp only [go_sem,r1,r2,r3,r4,U2]|with_reducible refine wA ?_|(refine ck rfl ?_)|clear hK K)
     rw [<-hf];exact bH.Ae (ob:=⟨9,1,true,(m.take k).map encS++([AV.v (.string s)] :: (m.drop k).map encS)⟩) rfl rfl (by simp;omega) (by rw [iZ,bm];exact bm 0 (s :: m.drop k))
  ·have eL:aB (.mk kd s l)=aJ l:=cK hk s l;rw [eL] at hF hN ⊢
   have hlen:l.length<=1000:=by
    have:=(dX hr).1
    simp only [ay,Bool.and_eq_true,decide_eq_true_eq] at hr;have h2:=fU kd s l;have h3:=sr l;omega
   simp only [aD,aZ,Ex.kind,Ex.label,Ex.kids] at hA ⊢
   have f1:(kd==1)=false:=by simpa using hk
   refine gE Tryz.func68 Tryz.ntmps68 Tryz.results68 ?_
   (refine u6 f1 ?_;intro K hK)
   refine bo (ι:=Nat) 8 (fun i=>[(1, .aC 1 ((bZ (ou L l i)).map encS) (bZ (ou L l i)).length),(7, .v (.int .i64 i))]) (fun i=>l.length - i) (fun i=>i<=l.length) 0 (Nat.zero_le _) ?_ ?_
   ·rw [Mp];refine bp ?_ aj
    all_goals rfl
   ·intro i hi K hK;have eW:=ak (k:=i) (by omega)
    (revert K;revert K;refine lu ?_;intro K hK K hK K hK)
    refine bC.part (fun h=> ?_) (fun h=> ?_)
    ·have hlt:i<l.length:=by replace h:=bJ h;omega
     have eG:=getD_map aS l i [] hlt;have C:=ih l[i] (Vx hlt) (ou L l i) (ld hr _ (Vx hlt)) (HM hlt hN);rw [sZ hlt] at C;simp only [aD,aZ] at C eG
     repeat (first|(with_reducible first|refine aA.up ?_|refine fun (K:AK) hK=> ?_|refine wD ?_|refine ae (by decide) ?_|refine ah (by decide) ?_|(refine hK _ ?_;clear hK K))|simp only [go_sem,h,eG]|with_reducible refine wA ?_|(refine ck rfl ?_)|clear hK K)
     refine ab.one C ?_
     ((iterate 4 revert K);refine u6 eW ?_)
     refine az.mk (i+1) (by omega) (by omega) ?_;exact aO aj
    ·have hin:i=l.length:=by replace h:=bJ h;omega
     have e:ou L l i=L++aJ l:=by rw [hin,ou,List.take_length]
     rw [e]
     ((iterate 3 revert K);refine lu ?_)
     exact jB.aC (bm 0 _)
theorem Fk (x:Ex) (hr:ay x=true) (h1:(ai x).length<=1000000) (hz: ∀z,z∈ai x->z.kids.length<=1000000∧z.label.size<=1000000000000000):ar Tryz.prog 37 [.agg (aS x)] (aZ (bW x)):=by
 have R:=mV x h1 hz;rw [hr] at R;have hn:=qb hr;have C:=By x [] hr (by simp;omega);rw [List.nil_append,BQ,Fj] at C;have C2:=C.le (args':=[.agg (aS x), .v (.slice none 0 0)]) (by simp only [aX,AV.wf,fe,Bool.and_self]) (.cons (.refl _) (.cons (.nil 1) .nil));simp only [aD,aZ] at *;refine gE Tryz.func37 Tryz.ntmps37 Tryz.results37 ?_
 (refine bF ?_;intro K hK K hK K hK)
 refine ab.one R ?_
 ((iterate 3 revert K);refine bF ?_;intro K hK K hK)
 refine ab.one C2 ?_
 (revert K;revert K;refine bF ?_)
 exact jB.aC (bm 0 _)
noncomputable def EY (x:Ex):AV:=match iF x (bW x) with
 | .inl A=> .cL [.vp (jz A), .v (.int .i64 0)]
 | .inr e=> .cL [.v (.pointer none), .v (.int .i64 e)]
theorem L7 (x:Ex):(EY x).wf 0=true:=by
 unfold EY
 split
 ·simp only [AV.wf,aX,rD,Bool.and_self]
 ·rfl
def nY (part order:List Nat) (n:Nat):List (List AV):=(zA part order n).map encI
def II (part order:List Nat) (p:Nat):Int:=match iA part order p with
 | some k=>(k:Int)
 | none=> -1
@[go_sem] theorem Rs (z:Nat) (part order:List Nat) (n:Nat):bw z (nY part order n)=true:=bz _ (fun _=>rfl) _
@[go_sem] theorem tu (part order:List Nat) (n:Nat):(nY part order n).length=n:=by rw [nY,U2,mi]
theorem tq {part order:List Nat} {n p:Nat} (h:p<n):(nY part order n).getD p []=[.v (.int .i64 (II part order p))]:=by
 rw [nY,U3,Ut,rn h];rfl
theorem zy {part order:List Nat} {n t:Nat} (hn:iA part order (part.getD t 0)=none) (hp:part.getD t 0<n):(nY part order n).set (part.getD t 0) [.v (.int .i64 (order.length:Nat))]=nY part (order++[t]) n:=by
 rw [nY,nY, <- Ik hn hp,List.map_set];rfl
theorem E0 (part:List Nat) (n:Nat):kq (List.replicate n (-1)) n=nY part [] n:=by rw [rA (by simp),nY,E3]
def tv (x:Ex) (labs:List ByteArray) (c d:AV) (tl:List (Option aa)):List (Option aa):=some ⟨25,3,false,[[.v (.int .i64 x.kind), .v (.string x.label), .aC 3 (x.kids.map aS) x.kids.length]]⟩ :: some ⟨76,3,false,[[.aC 1 (labs.map encS) labs.length,c,d]]⟩ :: tl
theorem oT (l:List Nat):(aI l).length=l.length:=by rw [aI,U2]
theorem l4 {l:List Nat} {i:Nat} (h:i<l.length):(aI l).getD i []=[.v (.int .i64 ((l.getD i 0:Nat):Int))]:=by
 rw [aI,U3,Ut,Uq h,U3,Uq h];rfl
theorem Ei (l:List Nat) (a:Nat):aI (l++[a])=aI l++[[.v (.int .i64 (a:Nat))]]:=by rw [aI,V7];rfl
theorem C6 (x:Ex) (h1:(ai x).length<=1000000) (hz: ∀z,z∈ai x->z.kids.length<=1000000∧z.label.size<=1000000000000000):ar Tryz.prog 10 [.agg (aS x)] (EY x):=by
 have CN:=mV x h1 hz;have hF:=L7 x
 have hA:aX 0 [AV.agg (aS x)]=true:=by simp only [aX,AV.wf,fe,Bool.and_self]
 have hu:EY x=(if ay x then (match my x (bW x) with
  | some st=>if 32<(fX (bW x) st).rows.length then .cL [.v (.pointer none), .v (.int .i64 11)] else .cL [.vp (jz (fX (bW x) st)), .v (.int .i64 0)]
  | none=> .cL [.v (.pointer none), .v (.int .i64 11)]) else .cL [.v (.pointer none), .v (.int .i64 2)]):=by
  unfold EY iF
  cases ay x
  ·rfl
  ·simp only [if_true]
   cases my x (bW x) with
   | none=>rfl
   | some st=>
    by_cases h32:32<(fX (bW x) st).rows.length
    ·simp only [if_pos h32]
    ·simp only [if_neg h32]
 rw [hu] at hF ⊢;clear hu
 cases hr:ay x
 ·rw [hr] at CN hF;simp only [Bool.false_eq_true,if_false] at CN hF ⊢;simp only [aD] at *;refine gE Tryz.func10 Tryz.ntmps10 Tryz.results10 ?_
  (refine fH ?_;intro K hK K hK K hK)
  refine ab.one CN ?_
  ((iterate 3 revert K);refine fH ?_)
  (refine jB.of 40 rfl ?_;simp only [go_sem])
 ·have CL:=Fk x hr h1 hz;rw [hr] at CN hF;simp only [if_true] at CN hF ⊢;have hln:=xo hr;have hlE:=qb hr;have CS:=I5 hr h1 hz (bW x) (iQ x) (by omega) (by omega)
  cases hst:my x (bW x) with
  | none=>
   rw [hst] at CS hF;simp only [mw] at CS;simp only [aD,aZ] at *;refine gE Tryz.func10 Tryz.ntmps10 Tryz.results10 ?_
   (refine fH ?_;intro K hK K hK K hK)
   refine ab.one CN ?_
   ((iterate 3 revert K);refine fH ?_;intro K hK K hK)
   refine ab.one CL ?_
   (revert K;revert K;refine fH ?_;intro K hK K hK)
   refine ba.one CS ?_
   (revert K;revert K;refine fH ?_)
   (refine jB.of 40 rfl ?_;simp only [go_sem])
  | some ss=>
   rw [hst] at CS hF;obtain ⟨ho,hl,hw⟩:=xR (aP (aN x)) (aN x).em (aq (aN x).la) (iQ x) hst;obtain ⟨g1,g2,g3⟩:=I6 hr hst;have hmax:=ho.max;have hE:=ho.ends;have hT:=qq ho hl;have hN:=Dl (iQ x) ho;have hsub: ∀r∈ss.rows,(r.map Prod.fst).Sublist (bW x):=fun r h=>(ho.row r h).1;have CP:=Iu (labs:=bW x) (rows:=ss.rows) (ends:=ss.ends) (by omega) hE (fun r h=>(mP x).sublist (hsub r h)) (fun r h l hl=>(hsub r h).subset hl) (qp (xq hr) ho) g2 hT (by omega);have hpl: ∀s,s<ss.rows.length->(br ss.rows ss.ends).getD s 0<ss.rows.length:=fun s hs=>Fa hs;obtain ⟨qo,ql,qw⟩:=zn (ends:=ss.ends) hT hN g2 (br ss.rows ss.ends);have hnd:=iQ x;have hLd:cq ss.rows ss.ends (br ss.rows ss.ends)=lI ss.rows ss.ends (br ss.rows ss.ends) (ss.rows.length+1) q0:=rfl;simp only [mw,hE] at CS;simp only at hF ⊢;generalize hrv:(if 32<(fX (bW x) ss).rows.length then AV.cL [.v (.pointer none), .v (.int .i64 11)] else .cL [.vp (jz (fX (bW x) ss)), .v (.int .i64 0)])=rv at hF ⊢
   have hv1:32<(cq ss.rows ss.ends (br ss.rows ss.ends)).rows.length->AV.cL [.v (.pointer none), .v (.int .i64 11)]=rv:=fun h=>by rw [<-hrv];exact (if_pos h).symm
   have hv2: ¬ 32<(cq ss.rows ss.ends (br ss.rows ss.ends)).rows.length->AV.cL [.vp (jz ⟨(cq ss.rows ss.ends (br ss.rows ss.ends)).rows,(cq ss.rows ss.ends (br ss.rows ss.ends)).ends,bW x⟩), .v (.int .i64 0)]=rv:=fun h=>by rw [<-hrv];exact (if_neg h).symm
   clear hrv;generalize hpart:br ss.rows ss.ends=part at *;generalize hL:cq ss.rows ss.ends part=L at *;obtain ⟨all,rows,ends⟩:=ss;simp only at *;clear hst hw g1 ho;generalize bW x=labs at *
   have eT: ∀i,i<rows.length->(c9 (rows.map (fw labs))).getD i []=[.aC 1 ((fw labs (rows.getD i [])).map encI) labs.length]:=fun i hi=>by
    rw [oR _ (by rw [U2];exact hi),List.getElem_map,db,U3,Uq hi];rfl
   have eLT:(c9 (rows.map (fw labs))).length=rows.length:=by rw [dx,U2]
   have eLE:(cu ends).length=rows.length:=by rw [dU,hE]
   have lP:(aI part).length=rows.length:=by rw [oT];exact g3
   have tV: ∀(r:aR) (k:Nat) (h:k<labs.length),((fw labs r).map encI).getD k []=[.v (.int .i64 (match look r labs[k] with|some t=>(t:Int)|none=> -1))]:=fun r k h=>by
    rw [Hg (fw labs r) (by rw [db];exact h)];simp only [fw,List.getElem_map];cases look r labs[k]<;>rfl
   have tL: ∀r:aR,((fw labs r).map encI).length=labs.length:=fun r=>by rw [U2,db]
   have eP0:=l4 (l:=part) (i:=0) (by omega);have hp0:=hpl 0 g2;have eZ:=ph rows.length;generalize hnn:rows.length=n at *;simp only [aD,aZ] at *
   (refine ar.l5 Tryz.func10 rfl (by kernel_rfl) (by kernel_rfl) rfl hA hF ?_;simp only [Tryz.ntmps10,Tryz.results10,Uh,Ub,Nat.reduceAdd,Nat.reduceSub,List.replicate_succ,List.replicate_zero,VK,VJ])
   (refine fH ?_;intro K hK K hK K hK)
   refine ab.one CN ?_
   ((iterate 3 revert K);refine fH ?_;intro K hK K hK)
   refine ab.one CL ?_
   (revert K;revert K;refine fH ?_;intro K hK K hK)
   refine ba.one CS ?_
   (revert K;revert K;refine fH ?_;intro K hK K hK)
   refine ab.one CP ?_
   repeat (first|(with_reducible first|refine aA.up ?_|refine fun (K:AK) hK=> ?_|refine wD ?_|refine ae (by decide) ?_|refine ah (by decide) ?_|(refine hK _ ?_;clear hK K))|simp only [go_sem,eZ]|with_reducible refine wA ?_|clear hK K)
   refine aT (ι:=Nat) 19 (fun i=>[(11, .v (.int .i64 i))]) (fun i=>tv x labs (.v (.slice none 0 0)) (.v (.slice none 0 0)) [some ⟨3,1,true,aI [0]⟩,some ⟨3,1,true,kq (List.replicate i (-1)) n⟩]) (fun i=>n - i) (fun i=>i<=n) 0 (Ui _) ?_ ?_
   ·simp only [tv,List.replicate_zero];refine iG ?_ ?_ aj
    all_goals first|rfl|exact ⟨rfl,rfl⟩|trace_state
   ·intro i hi K hK;simp only [tv];have eW:=ak (k:=i) (by omega)
    (revert K;revert K;refine fH ?_;intro K hK K hK K hK)
    refine bC.part (fun h=> ?_) (fun h=> ?_)
    ·have hlt:i<n:=by replace h:=bJ h;omega
     have lA:(List.replicate i (-1:Int)).length=i:=List.length_replicate;have eL0:(kq (List.replicate i (-1:Int)) n).length=n:=iV (by omega);have gZ:=mq lA hlt;have sQ:=pg (-1) lA hlt;rw [<-List.replicate_succ'] at sQ
     repeat (first|(with_reducible first|refine aA.up ?_|refine fun (K:AK) hK=> ?_|refine wD ?_|refine ae (by decide) ?_|refine ah (by decide) ?_|(refine hK _ ?_;clear hK K))|simp only [go_sem,h,eL0,gZ,Wz,WA,sQ]|with_reducible refine wA ?_|clear hK K)
     refine ke eW ?_;refine az.mk (i+1) (by omega) (by omega) ?_;simp only [tv];exact aO aj
    ·have hin:i=n:=by replace h:=bJ h;omega
     rw [hin,E0 part];have gN:=tq (part:=part) (order:=[]) hp0;have sN:=zy (part:=part) (order:=[]) (n:=n) (t:=0) rfl hp0;simp only [Ub,VJ,Int.natCast_zero] at sN;have lN:=tu part [] n
     repeat (first|(with_reducible first|refine aA.up ?_|refine fun (K:AK) hK=> ?_|refine wD ?_|refine ae (by decide) ?_|refine ah (by decide) ?_|(refine hK _ ?_;clear hK K))|simp only [go_sem,eP0,lP,gN,sN,Wz,WA]|with_reducible refine wA ?_|clear hK K)
     refine aT (ι:=wo) 19 (fun st=>[(9, .vec 2 st.order.length),(12, .v (.int .i64 st.rows.length)),(13, .undef),(14, .undef)]) (fun st=>tv x labs (.v (.slice none 0 0)) (.v (.slice none 0 0)) [some ⟨3,1,true,aI st.order⟩,some ⟨3,1,true,nY part st.order n⟩]) (fun st=>n+1 - st.rows.length) (fun st=>DH rows part st∧lI rows ends part (n+1 - st.rows.length) st=L) q0 ⟨Db rows part (by omega),hLd.symm⟩ ?_ ?_
     ·simp only [tv,q0];refine bp ?_ aj
      all_goals first|rfl|exact ⟨rfl,rfl⟩|trace_state
     ·rintro st ⟨hok,hrun⟩ K hK;simp only [tv];have hle:=hok.le;have hlt':=hok.lt;rw [hnn] at hlt';have hol:=kj part hok.nd hlt';have eN0:=oT st.order
      (revert K;revert K;refine ke eN0 ?_;intro K hK K hK K hK)
      refine bC.part (fun h2=> ?_) (fun h2=> ?_)
      ·have hlt:st.rows.length<st.order.length:=by replace h2:=bJ h2;omega
       have hcu:dp st<n:=hlt' _ (aQ hlt);rw [show n+1 - st.rows.length=(n - st.rows.length)+1 by omega,lI,if_pos hlt] at hrun;have hrow:=hT _ (aQ (d:=[]) (show dp st<rows.length by omega));have FO:=NW (part:=part) (row:=rows.getD (dp st) []) hok.nd hlt' hrow;have hfin:=Lw (row:=rows.getD (dp st) []) part st.order hnd (hsub _ (aQ (d:=[]) (show dp st<rows.length by omega)))
       ((iterate 3 revert K);refine ke h2 ?_;intro K hK K hK K hK)
       refine aT (ι:=Nat) 19 (fun k=>[(9, .vec 2 (BT part (rows.getD (dp st) []) (labs.take k) st.order).length),(13, .v (.int .i64 k)),(14, .undef)]) (fun k=>tv x labs (.v (.slice none 0 0)) (.v (.slice none 0 0)) [some ⟨3,1,true,aI (BT part (rows.getD (dp st) []) (labs.take k) st.order)⟩,some ⟨3,1,true,nY part (BT part (rows.getD (dp st) []) (labs.take k) st.order) n⟩]) (fun k=>labs.length - k) (fun k=>k<=labs.length) 0 (Ui _) ?_ ?_
       ·simp only [tv,List.take_zero,BT,List.foldl_nil];refine bp ?_ aj
        all_goals first|rfl|exact ⟨rfl,rfl⟩|trace_state
       ·intro k hk K hK;simp only [tv];have eWk:=ak (k:=k) (by omega);obtain ⟨f1,f2,t0,f3⟩:=FO (labs.take k);have hol2:=kj part f1 f2
        ((iterate 4 revert K);refine fH ?_;iterate 5 intro K hK)
        refine bC.part (fun h3=> ?_) (fun h3=> ?_)
        ·have hlk:k<labs.length:=by replace h3:=bJ h3;omega
         have hS:=zS part (rows.getD (dp st) []) (labs.take k) labs[k] st.order;rw [<-Wg hlk] at hS;have eV:=tV (rows.getD (dp st) []) k hlk;have eTq:=eT _ hcu;have eLq:=tL (rows.getD (dp st) [])
         have hcq:(BT part (rows.getD (dp st) []) (labs.take k) st.order).getD st.rows.length 0=dp st:=by rw [f3,bX hlt];rfl
         generalize hoo:BT part (rows.getD (dp st) []) (labs.take k) st.order=oo at *
         have hlo:st.rows.length<oo.length:=by rw [f3,Ug];omega
         have eO:=l4 hlo;rw [hcq] at eO;have lO:=oT oo;have lNo:=tu part oo n
         cases hq:look (rows.getD (dp st) []) labs[k] with
         | none=>
          rw [hq] at eV hS;simp only at eV;rw [xN] at hS
          repeat (first|(with_reducible first|refine aA.up ?_|refine fun (K:AK) hK=> ?_|refine wD ?_|refine ae (by decide) ?_|refine ah (by decide) ?_|(refine hK _ ?_;clear hK K))|simp only [go_sem,h3,eO,lO,eTq,eLT,eLq,eV]|with_reducible refine wA ?_|clear hK K)
          refine Nh ?_;refine ke eWk ?_;refine az.mk (k+1) (by omega) (by omega) ?_;simp only [tv,hS];exact aO aj
          all_goals first|rfl|exact ⟨rfl,rfl⟩|trace_state
         | some t=>
          rw [hq] at eV hS;simp only at eV;have htn:t<n:=hrow _ (dy hq);have ePt:=l4 (l:=part) (i:=t) (by omega);have hpt:=hpl t htn;have gNt:=tq (part:=part) (order:=oo) hpt;have d0:decide ((0:Int)<=(t:Int))=true:=decide_eq_true (by omega);rw [xN] at hS
          cases hp:iA part oo (part.getD t 0) with
          | some j=>
           rw [hp] at hS;simp only at hS;rw [II,hp] at gNt;simp only at gNt;have d1:decide ((j:Int)<0)=false:=decide_eq_false (by omega)
           repeat (first|(with_reducible first|refine aA.up ?_|refine fun (K:AK) hK=> ?_|refine wD ?_|refine ae (by decide) ?_|refine ah (by decide) ?_|(refine hK _ ?_;clear hK K))|simp only [go_sem,h3,eO,lO,eTq,eLT,eLq,eV]|with_reducible refine wA ?_|clear hK K)
           repeat (first|(with_reducible first|refine aA.up ?_|refine fun (K:AK) hK=> ?_|refine wD ?_|refine ae (by decide) ?_|refine ah (by decide) ?_|(refine hK _ ?_;clear hK K))|simp only [go_sem,d0,d1,ePt,lP,gNt,lNo,Go.undef]|with_reducible refine wA ?_|clear hK K)
           refine ke eWk ?_;refine az.mk (k+1) (by omega) (by omega) ?_;simp only [tv,hS];exact aO aj
           all_goals first|rfl|exact ⟨rfl,rfl⟩|trace_state
          | none=>
           rw [hp] at hS;simp only at hS;have sNt:=zy hp hpt;rw [II,hp] at gNt;simp only at gNt
           repeat (first|(with_reducible first|refine aA.up ?_|refine fun (K:AK) hK=> ?_|refine wD ?_|refine ae (by decide) ?_|refine ah (by decide) ?_|(refine hK _ ?_;clear hK K))|simp only [go_sem,h3,eO,lO,eTq,eLT,eLq,eV]|with_reducible refine wA ?_|clear hK K)
           repeat (first|(with_reducible first|refine aA.up ?_|refine fun (K:AK) hK=> ?_|refine wD ?_|refine ae (by decide) ?_|refine ah (by decide) ?_|(refine hK _ ?_;clear hK K))|simp only [go_sem,d0,ePt,lP,gNt,lNo,sNt,Wz,WA,Go.undef]|with_reducible refine wA ?_|clear hK K)
           refine ke eWk ?_;refine az.mk (k+1) (by omega) (by omega) ?_;simp only [tv,hS,Ei,Ug,V9];exact aO aj
           all_goals first|rfl|exact ⟨rfl,rfl⟩|trace_state
        ·have hkl:k=labs.length:=by replace h3:=bJ h3;omega
         have hfk:BT part (rows.getD (dp st) []) (labs.take k) st.order=(dQ rows ends part st).order:=by
          rw [hkl,WR];exact hfin
         have hnr:(dQ rows ends part st).rows.length=st.rows.length+1:=by rw [dQ];simp only [Ug,V9]
         have hnok:=pb rows ends part (by rw [hnn];exact hT) hok hlt;rw [hfk];generalize dQ rows ends part st=st2 at *;have eW2:=ak (k:=st.rows.length) (by omega)
         ((iterate 5 revert K);refine fH ?_)
         refine ke eW2 ?_
         refine az.mk st2 ⟨hnok, ?_⟩ ?_ ?_
         ·rw [hnr,show n+1 - (st.rows.length+1)=n - st.rows.length by omega];exact hrun
         ·show n+1 - st2.rows.length<n+1 - st.rows.length;omega
         ·simp only [tv,hnr];exact aO aj
          all_goals first|rfl|exact ⟨rfl,rfl⟩|trace_state
      ·have hge: ¬st.rows.length<st.order.length:=by replace h2:=bJ h2;omega
       rw [show n+1 - st.rows.length=(n - st.rows.length)+1 by omega,lI,if_neg hge] at hrun
       have hlo:st.order.length=L.rows.length:=by rw [ql,hrun]
       rw [hrun] at hok hol hlt' ⊢;have hlLn:L.order.length=L.rows.length:=ql.symm;rw [hlLn] at hol;clear hrun hlo hge h2 hle eN0;have eN0:=oT L.order
       ((iterate 3 revert K);refine Ml eN0 hlLn ?_;intro K hK)
       refine bC.part (fun h2=> ?_) (fun h2=> ?_)
       ·have h32:32<L.rows.length:=by replace h2:=bJ h2;omega
        have hrv:=hv1 h32
        (revert K;refine fH ?_)
        rw [<-hrv];exact bH.cL ⟨bH.v _,bH.v _,trivial⟩
       ·have h32: ¬ 32<L.rows.length:=by replace h2:=bJ h2;omega
        have hrv:=hv2 h32
        have hrow: ∀i (h:i<L.rows.length), ∀k (hk:k<labs.length), ∀(t:Option Nat),look (rows.getD (L.order.getD i 0) []) labs[k]=t->(fw labs (L.rows.getD i []))[k]? = some (match t with|some t=>II part L.order (part.getD t 0)|none=> -1):=fun i hi k hk t ht=>by
         rw [Fy (labs:=labs) qo qw hi,Ut,fw,Ut,Uq hk,Option.map_some,Option.map_some,ht]
         cases t with
         | none=>rfl
         | some t=>
          simp only [show ¬((t:Int)<0) by omega,if_false,Int.toNat_natCast,II];cases iA part L.order (part.getD t 0)<;>rfl
        repeat ((fail_if_success (with_reducible refine bB (i:=27) ?_));first|(with_reducible first|refine aA.up ?_|refine fun (K:AK) hK=> ?_|refine ae (by decide) ?_|refine ah (by decide) ?_|(refine hK _ ?_;clear hK K))|simp only [go_sem]|with_reducible refine wA ?_|clear hK K)
        refine bb (dD (k:=1) (i:=0) (j:=1) 79 1 (by decide) rfl (WE _) rfl rfl) (by kernel_rfl) ?_;simp only [VR,VQ,Uh,Ub,Nat.reduceAdd,VK,VJ];refine bb (dD (k:=1) (i:=0) (j:=2) 4 1 (by decide) rfl (WE _) rfl rfl) (by kernel_rfl) ?_;simp only [VR,VQ,Uh,Ub,Nat.reduceAdd,VK,VJ];have eZm:=ph labs.length
        (revert K;revert K;refine fH ?_;intro K hK)
        refine aT (ι:=Nat) 19 (fun i=>[(13, .undef),(14, .undef),(15, .v (.int .i64 i)),(16, .undef),(17, .undef),(18, .undef)]) (fun i=>tv x labs (.vec 4 i) (.vec 5 i) [some ⟨3,1,true,aI L.order⟩,some ⟨3,1,true,nY part L.order n⟩,some ⟨79,1,true,c9 ((L.rows.take i).map (fw labs))⟩,some ⟨4,1,true,cu (L.ends.take i)⟩]) (fun i=>L.rows.length - i) (fun i=>i<=L.rows.length) 0 (Ui _) ?_ ?_
        ·simp only [tv];refine iG ?_ ?_ aj
         all_goals first|rfl|exact ⟨rfl,rfl⟩|trace_state
        ·intro i hi K hK;simp only [tv];have eWi:=ak (k:=i) (by omega)
         (revert K;revert K;refine Ml eN0 hlLn ?_;intro K hK K hK K hK)
         refine bC.part (fun h3=> ?_) (fun h3=> ?_)
         ·have hil:i<L.rows.length:=by replace h3:=bJ h3;omega
          have hoi:L.order.getD i 0<n:=hlt' _ (aQ (by omega));have eOi:=l4 (l:=L.order) (i:=i) (by omega);have eTq:=eT _ hoi;have eLq:=tL (rows.getD (L.order.getD i 0) []);have hqT:=hT _ (aQ (d:=[]) (show L.order.getD i 0<rows.length by omega));have hri:=hrow i hil;have lR:(fw labs (L.rows.getD i [])).length=labs.length:=db _ _;generalize hRi:fw labs (L.rows.getD i [])=Ri at *
          repeat (first|(with_reducible first|refine aA.up ?_|refine fun (K:AK) hK=> ?_|refine wD ?_|refine ae (by decide) ?_|refine ah (by decide) ?_|(refine hK _ ?_;clear hK K))|simp only [go_sem,eZm]|with_reducible refine wA ?_|clear hK K)
          refine aT (ι:=Nat) 19 (fun k=>[(17, .v (.int .i64 k)),(18, .undef)]) (fun k=>tv x labs (.vec 4 i) (.vec 5 i) [some ⟨3,1,true,aI L.order⟩,some ⟨3,1,true,nY part L.order n⟩,some ⟨79,1,true,c9 ((L.rows.take i).map (fw labs))⟩,some ⟨4,1,true,cu (L.ends.take i)⟩,some ⟨3,1,true,kq (Ri.take k) labs.length⟩]) (fun k=>labs.length - k) (fun k=>k<=labs.length) 0 (Ui _) ?_ ?_
          ·simp only [tv,List.take_zero];refine bp ?_ aj
           all_goals first|rfl|exact ⟨rfl,rfl⟩|trace_state
          ·intro k hk K hK;simp only [tv];have eWk:=ak (k:=k) (by omega)
           have lRk:(Ri.take k).length=k:=by rw [UB];omega
           have eLr:(kq (Ri.take k) labs.length).length=labs.length:=iV (by omega)
           ((iterate 5 revert K);refine ke eLr ?_;iterate 6 intro K hK)
           refine bC.part (fun h4=> ?_) (fun h4=> ?_)
           ·have hlk:k<labs.length:=by replace h4:=bJ h4;omega
            have g0:=mq (n:=labs.length) lRk hlk;have s0:=pg (n:=labs.length) (-1) lRk hlk;have eL1:(kq (Ri.take k++[-1]) labs.length).length=labs.length:=iV (by rw [Ug,V9];omega);have g1:=xP (n:=labs.length) (-1) lRk;have s1:=fun v=>tP (n:=labs.length) (-1) v lRk;have eV:=tV (rows.getD (L.order.getD i 0) []) k hlk;have hS:Ri.take (k+1)=Ri.take k++Ri[k]?.toList:=List.take_add_one
            cases hq:look (rows.getD (L.order.getD i 0) []) labs[k] with
            | none=>
             rw [hq] at eV;simp only at eV;rw [hri k hlk _ hq] at hS;simp only [W6] at hS
             repeat (first|(with_reducible first|refine aA.up ?_|refine fun (K:AK) hK=> ?_|refine wD ?_|refine ae (by decide) ?_|refine ah (by decide) ?_|(refine hK _ ?_;clear hK K))|simp only [go_sem,h4,eLr,g0,s0,eL1,Wz,WA]|with_reducible refine wA ?_|clear hK K)
             repeat (first|(with_reducible first|refine aA.up ?_|refine fun (K:AK) hK=> ?_|refine wD ?_|refine ae (by decide) ?_|refine ah (by decide) ?_|(refine hK _ ?_;clear hK K))|simp only [go_sem,eOi,eN0,hlLn,h3,eTq,eLT,eLq,eV,h4]|with_reducible refine wA ?_|clear hK K)
             refine ke eWk ?_;refine az.mk (k+1) (by omega) (by omega) ?_;simp only [tv,hS];exact aO aj
             all_goals first|rfl|exact ⟨rfl,rfl⟩|trace_state
            | some t=>
             rw [hq] at eV;simp only at eV;rw [hri k hlk _ hq] at hS;simp only [W6] at hS
             have htn:t<n:=by have:=hqT _ (dy hq);omega
             have ePt:=l4 (l:=part) (i:=t) (by omega);have hpt:=hpl t htn;have gNt:=tq (part:=part) (order:=L.order) hpt;have lNo:=tu part L.order n;have d0:decide ((0:Int)<=(t:Int))=true:=decide_eq_true (by omega)
             repeat (first|(with_reducible first|refine aA.up ?_|refine fun (K:AK) hK=> ?_|refine wD ?_|refine ae (by decide) ?_|refine ah (by decide) ?_|(refine hK _ ?_;clear hK K))|simp only [go_sem,h4,eLr,g0,s0,eL1,Wz,WA]|with_reducible refine wA ?_|clear hK K)
             repeat (first|(with_reducible first|refine aA.up ?_|refine fun (K:AK) hK=> ?_|refine wD ?_|refine ae (by decide) ?_|refine ah (by decide) ?_|(refine hK _ ?_;clear hK K))|simp only [go_sem,eOi,eN0,hlLn,h3,eTq,eLT,eLq,eV,h4]|with_reducible refine wA ?_|clear hK K)
             repeat (first|(with_reducible first|refine aA.up ?_|refine fun (K:AK) hK=> ?_|refine wD ?_|refine ae (by decide) ?_|refine ah (by decide) ?_|(refine hK _ ?_;clear hK K))|simp only [go_sem,d0,ePt,lP,gNt,lNo,eL1,g1,s1,Wz,WA]|with_reducible refine wA ?_|clear hK K)
             refine ke eWk ?_;refine az.mk (k+1) (by omega) (by omega) ?_;simp only [tv,hS];exact aO aj
             all_goals first|rfl|exact ⟨rfl,rfl⟩|trace_state
           ·have hkl:k=labs.length:=by replace h4:=bJ h4;omega
            have eTk:Ri.take k=Ri:=by rw [hkl, <- lR,WR]
            rw [eTk,rA lR]
            have lRm:(Ri.map encI).length=labs.length:=by rw [U2,lR]
            repeat ((fail_if_success (with_reducible refine bB (i:=38) ?_));first|(with_reducible first|refine aA.up ?_|refine fun (K:AK) hK=> ?_|refine ae (by decide) ?_|refine ah (by decide) ?_|(refine hK _ ?_;clear hK K))|simp only [go_sem]|with_reducible refine wA ?_|clear hK K)
            refine bb (gO 16 6 rfl rfl rfl lRm) (by kernel_rfl) ?_;simp only [VR,VQ];have eEi:=uX ends (i:=L.order.getD i 0) (by omega)
            have eLi:c9 ((L.rows.take i).map (fw labs))++[[AV.aC 1 (Ri.map encI) labs.length]]=c9 ((L.rows.take (i+1)).map (fw labs)):=by
             rw [Wg hil,V7,c9,c9,V7, <- lR, <- hRi,U3,Uq hil];rfl
            have hLe:L.ends.length=L.rows.length:=qo.ends
            have eEn:cu (L.ends.take i)++[[AV.v (.bool (ends.getD (L.order.getD i 0) false))]]=cu (L.ends.take (i+1)):=by
             rw [<-qw.Bb i hil,Wg (show i<L.ends.length by omega),cu,cu,V7,U3,Uq (show i<L.ends.length by omega)];rfl
            have lLi:(c9 ((L.rows.take i).map (fw labs))).length=i:=by rw [dx,U2,UB];omega
            have lEi:(cu (L.ends.take i)).length=i:=by rw [dU,UB];omega
            repeat ((fail_if_success (with_reducible refine bB (i:=39) ?_));first|(with_reducible first|refine aA.up ?_|refine fun (K:AK) hK=> ?_|refine ae (by decide) ?_|refine ah (by decide) ?_|(refine hK _ ?_;clear hK K))|simp only [go_sem,eLi,lLi]|with_reducible refine wA ?_|clear hK K)
            refine bV [13,16] [] (by decide+kernel) (by kernel_rfl) ?_
            repeat (first|(with_reducible first|refine aA.up ?_|refine fun (K:AK) hK=> ?_|refine ae (by decide) ?_|refine ah (by decide) ?_|(refine hK _ ?_;clear hK K))|simp only [go_sem,eOi,eN0,hlLn,h3,eEi,eLE,eEn,lEi]|with_reducible refine wA ?_|clear hK K)
            refine ke eWi ?_;refine az.mk (i+1) (by omega) (by omega) ?_;simp only [tv];exact aO aj
            all_goals first|rfl|exact ⟨rfl,rfl⟩|trace_state
         ·have hin:i=L.rows.length:=by replace h3:=bJ h3;omega
          have hLe:L.ends.length=L.rows.length:=qo.ends
          have e1:L.rows.take i=L.rows:=by rw [hin,WR]
          have e2:L.ends.take i=L.ends:=by rw [hin, <- hLe,WR]
          rw [e1,e2,hin]
          have l1:(c9 (L.rows.map (fw labs))).length=L.rows.length:=by rw [dx,U2]
          have l2:(cu L.ends).length=L.rows.length:=by rw [dU,hLe]
          repeat ((fail_if_success (with_reducible refine bB (i:=40) ?_));first|(with_reducible first|refine aA.up ?_|refine fun (K:AK) hK=> ?_|refine ae (by decide) ?_|refine ah (by decide) ?_|(refine hK _ ?_;clear hK K))|simp only [go_sem]|with_reducible refine wA ?_|clear hK K)
          refine bb (dA (k:=1) (i:=0) (j:=1) (by decide) rfl (WE _) rfl rfl rfl rfl l1) (by kernel_rfl) ?_;simp only [VR,VQ];refine bb (dA (k:=1) (i:=0) (j:=2) (by decide) rfl (WE _) rfl rfl rfl rfl l2) (by kernel_rfl) ?_;simp only [VR,VQ]
          (revert K;refine fH ?_)
          rw [<-hrv];simp only [jz,aZ];refine bH.cL ⟨bH.ptr (ob:=⟨76,3,false,[[.aC 1 (labs.map encS) labs.length, .aC 1 (c9 (L.rows.map (fw labs))) L.rows.length, .aC 1 (cu L.ends) L.rows.length]]⟩) rfl rfl rfl (Nat.succ_ne_zero 2) ?_,bH.v _,trivial⟩;exact ⟨bH.uD (bm 0 _),bH.uD (lk 0 _),bH.uD (mA 0 _),trivial⟩
theorem Ly {A:pB} (LO:FI A) (w:List ByteArray) (hw:w.length<=1000000):ar Tryz.prog 13 [.vp (jz A),aZ w] (.v (.bool (bK A.rows A.ends 0 w))):=by
 have CS:=fun (s:Int) l=>xO LO s l;have CT:=fun (s:Int)=>IW LO.ends s;have hpos:=LO.pos;simp only [jz,aZ] at *;generalize hrv:bK A.rows A.ends 0 w=rv;refine gE Tryz.func13 Tryz.ntmps13 Tryz.results13 ?_
 (refine au ?_;intro K hK)
 refine bo (ι:=Nat×Nat) 9 (fun x=>[(5, .v (.int .i64 x.2)),(6, .v (.int .i64 x.1)),(7, .undef),(8, .undef)]) (fun x=>w.length - x.1) (fun x=>x.1<=w.length∧x.2<A.rows.length∧bK A.rows A.ends x.2 (w.drop x.1)=rv) (0,0) ⟨Nat.zero_le _,hpos,by rw [List.drop_zero];exact hrv⟩ ?_ ?_
 ·refine bp ?_ aj
  all_goals rfl
 ·rintro ⟨k,s⟩ ⟨hk,hs,hg⟩ K hK;simp only at hk hs hg
  (revert K;revert K;refine au ?_;intro K hK K hK K hK)
  refine bC.part (fun h=> ?_) (fun h=> ?_)
  ·have hlt:k<w.length:=by replace h:=bJ h;omega
   have eW:=ak (k:=k) (by omega);have eG:=getD_map encS w k [] hlt;rw [List.drop_eq_getElem_cons hlt,qH] at hg;have CK:=CS (s:Int) w[k]
   have e3:cb A s w[k]=look (A.rows.getD s []) w[k]:=by
    rw [cb,if_pos ⟨by omega,by omega⟩,W7]
   rw [e3] at CK;simp only [encS] at eG
   cases hl:look (A.rows.getD s []) w[k] with
   | none=>
    rw [hl] at CK hg;simp only [stepT,WK,WL] at CK hg
    repeat (first|(with_reducible first|refine aA.up ?_|refine fun (K:AK) hK=> ?_|(refine hK _ ?_;clear hK K))|simp only [go_sem,eG,h]|with_reducible refine wA ?_|clear hK K)
    refine ab.one CK ?_
    ((iterate 5 revert K);refine au ?_)
    rw [hg]
   | some t=>
    rw [hl] at CK hg;simp only [stepT,Wb,WN] at CK hg;have ht:t<A.rows.length:=(LO.row _ (aQ hs)).2 _ (dy hl)
    repeat (first|(with_reducible first|refine aA.up ?_|refine fun (K:AK) hK=> ?_|(refine hK _ ?_;clear hK K))|simp only [go_sem,eG,h]|with_reducible refine wA ?_|clear hK K)
    refine ab.one CK ?_
    ((iterate 5 revert K);refine aK eW ?_)
    refine az.mk (k+1,t) ⟨hlt,ht,hg⟩ (by show w.length - (k+1)<w.length - k;omega) ?_;exact aO aj
  ·have hkw:k=w.length:=by replace h:=bJ h;omega
   have hg2:dh A s=rv:=by
    rw [<-hg,hkw,List.drop_length,dh,decide_eq_true (by omega),decide_eq_true (by omega)];rfl
   ((iterate 3 revert K);refine au ?_;intro K hK K hK)
   refine ab.one (CT s) ?_
   (revert K;revert K;refine au ?_)
   rw [hg2]
theorem Fm {r s:aR} (h1:(r.map Prod.fst).Nodup) (h2:(s.map Prod.fst).Nodup):mo r s=true ↔ ∀l,look r l=look s l:=by
 rw [mo,Bool.and_eq_true,decide_eq_true_eq,Vj]
 constructor
 ·rintro ⟨hl,h⟩ l
  have hs: ∀p∈r,look s p.1=some p.2:=fun p hp=>by simpa using h p hp
  cases q:look r l with
  | some t=>exact (hs _ (dy q)).symm
  | none=>
   cases q2:look s l with
   | none=>rfl
   | some t=>
    exfalso;have hn:=cP.1 q
    have hsub: ∀m∈l :: r.map Prod.fst,m∈s.map Prod.fst:=fun m hm=>by
     rcases List.mem_cons.1 hm with rfl|hm
     ·exact List.mem_map_of_mem (f:=Prod.fst) (dy q2)
     ·obtain ⟨p,hp,rfl⟩:=List.mem_map.1 hm;exact List.mem_map_of_mem (f:=Prod.fst) (dy (hs p hp))
    have:=(List.nodup_cons.2 ⟨hn,h1⟩).length_le_of_subset hsub
    simp only [List.length_cons,U2] at this;omega
 ·intro h
  have sub: ∀ {a b:aR},(∀l,look a l=look b l)-> ∀m∈a.map Prod.fst,m∈b.map Prod.fst:=fun {a b} h m hm=>by
   refine Classical.byContradiction fun hn=> ?_
   have:=cP.2 hn
   rw [<-h] at this;exact cP.1 this hm
  have l1:=h1.length_le_of_subset (sub h);have l2:=h2.length_le_of_subset (sub fun l=>(h l).symm);simp only [U2] at l1 l2;refine ⟨by omega,fun p hp=> ?_⟩;rw [<-h,oX h1 (show (p.1,p.2)∈r from hp)];simp
theorem BS {A B:pB} (ha:FI A) (hb:FI B) {s:Nat} (h1:s<A.rows.length) (h2:s<B.rows.length):mo (A.rows.getD s []) (B.rows.getD s [])=true ↔ ∀l∈A.labs++B.labs,cb A s l=cb B s l:=by
 have ra:=(ha.row _ (aQ (d:=[]) h1)).1;have rb:=(hb.row _ (aQ (d:=[]) h2)).1;rw [Fm (ra.nodup ha.nd) (rb.nodup hb.nd)]
 have e1: ∀l,cb A s l=look (A.rows.getD s []) l:=fun l=>by rw [cb,if_pos ⟨by omega,by omega⟩,W7]
 have e2: ∀l,cb B s l=look (B.rows.getD s []) l:=fun l=>by rw [cb,if_pos ⟨by omega,by omega⟩,W7]
 simp only [e1,e2];refine ⟨fun h l _=>h l,fun h l=> ?_⟩
 by_cases hl:l∈A.labs++B.labs
 ·exact h l hl
 ·rw [List.mem_append,not_or] at hl;rw [cP.2 (fun q=>hl.1 (ra.subset q)),cP.2 (fun q=>hl.2 (rb.subset q))]
theorem Lx {A B:pB} (ha:FI A) (hb:FI B):ar Tryz.prog 15 [.vp (jz A), .vp (jz B)] (.v (.bool (mv A B))):=by
 have SA:=fun (s:Int) l=>xO ha s l;have SB:=fun (s:Int) l=>xO hb s l;have ea:=ha.ends;have eb:=hb.ends;have am:=ha.max;have fa:=ha.Pt;have fb:=hb.Pt;have hR:=fun s h1 h2=>BS ha hb (s:=s) h1 h2;generalize hrv:mv A B=rv
 have eLA:(c9 (A.rows.map (fw A.labs))).length=A.rows.length:=by rw [dx,U2]
 have eLB:(c9 (B.rows.map (fw B.labs))).length=B.rows.length:=by rw [dx,U2]
 have lEA:(cu A.ends).length=A.rows.length:=by rw [dU,ea]
 have lEB:(cu B.ends).length=B.rows.length:=by rw [dU,eb]
 have eAll:A.labs.map encS++B.labs.map encS=(A.labs++B.labs).map encS:=by rw [List.map_append]
 have lAll:A.labs.length+B.labs.length=(A.labs++B.labs).length:=by rw [List.length_append]
 have tA:(A.labs.map encS).take A.labs.length=A.labs.map encS:=Wl (by simp);have tB:(B.labs.map encS).take B.labs.length=B.labs.map encS:=Wl (by simp);simp only [jz,aZ] at SA SB ⊢;refine gE Tryz.func15 Tryz.ntmps15 Tryz.results15 ?_
 (refine lu ?_;intro K hK)
 refine bC.part (fun h=> ?_) (fun h=> ?_)
 ·have hne:A.rows.length≠B.rows.length:=by replace h:=Ow h;omega
  have hf:rv=false:=by rw [<-hrv,mv,decide_eq_false hne];rfl
  (revert K;refine lu ?_)
  rw [hf]
 ·have heq:A.rows.length=B.rows.length:=by replace h:=Ow h;omega
  have hf:(List.range A.rows.length).all (sameAt A B)=rv:=by rw [<-hrv,mv,decide_eq_true heq];rfl
  (revert K;refine lu ?_;intro K hK)
  refine bo (ι:=Nat) 12 (fun s=>[(5, .v (.int .i64 s)),(6, .undef),(7, .undef),(8, .undef),(9, .undef),(10, .undef),(11, .undef)]) (fun s=>A.rows.length - s) (fun s=>s<=A.rows.length∧ ∀t,t<s->sameAt A B t=true) 0 ⟨Nat.zero_le _,fun t h=>absurd h (Nat.not_lt_zero t)⟩ ?_ ?_
  ·refine bp ?_ aj
   all_goals rfl
  ·rintro s ⟨hs,hd⟩ K hK
   (revert K;revert K;refine lu ?_;intro K hK K hK K hK)
   refine bC.part (fun h2=> ?_) (fun h2=> ?_)
   ·have hlt:s<A.rows.length:=by replace h2:=Ow h2;omega
    have eW:=ak (k:=s) (by omega);have g1:=si A.ends (i:=s) (by omega);have g2:=si B.ends (i:=s) (by omega);have hrow:=hR s hlt (by omega);have hsm:sameAt A B s=((A.ends.getD s false==B.ends.getD s false)&&mo (A.rows.getD s []) (B.rows.getD s [])):=rfl;generalize A.ends.getD s false=e1 at *;generalize B.ends.getD s false=e2 at *
    have hin:sameAt A B s=false->rv=false:=fun hx=>by
     rw [<-hf, <- Bool.not_eq_true,Vj];intro hall
     have:=hall s (List.mem_range.2 hlt)
     rw [hx] at this;cases this
    have d1:decide ((s:Int)<(A.rows.length:Int))=true:=decide_eq_true (by omega);have d2:decide ((s:Int)<(B.rows.length:Int))=true:=decide_eq_true (by omega)
    repeat (first|(with_reducible first|refine aA.up ?_|refine fun (K:AK) hK=> ?_|refine wD ?_|refine ae (by decide) ?_|refine ah (by decide) ?_|(refine hK _ ?_;clear hK K))|simp only [go_sem,g1,g2,d1,d2,lEA,lEB,h2]|with_reducible refine wA ?_|(refine ck rfl ?_)|clear hK K)
    refine bC.part (fun h3=> ?_) (fun h3=> ?_)
    ·have:(e1==e2)=true:=h3
     rw [this,Bool.true_and] at hsm;rw [<-hsm] at hrow
     repeat ((fail_if_success (with_reducible refine bB (i:=8) ?_));first|(with_reducible first|refine aA.up ?_|refine fun (K:AK) hK=> ?_|refine ae (by decide) ?_|refine ah (by decide) ?_|(refine hK _ ?_;clear hK K))|simp only [go_sem]|with_reducible refine wA ?_|(refine ck rfl ?_)|clear hK K)
     refine bV [0,5,10] [(4,0),(9,0)] (by decide+kernel) (by kernel_rfl) ?_
     repeat ((fail_if_success (with_reducible refine bB (i:=9) ?_));first|(with_reducible first|refine aA.up ?_|refine fun (K:AK) hK=> ?_|refine ae (by decide) ?_|refine ah (by decide) ?_|(refine hK _ ?_;clear hK K))|simp only [go_sem,tA,tB]|with_reducible refine wA ?_|(refine ck rfl ?_)|clear hK K)
     simp only [eAll,lAll];refine bb (gO 6 0 rfl rfl rfl (U2 _)) (by kernel_rfl) ?_;simp only [List.set_cons_zero,List.set_cons_succ];generalize hall:A.labs++B.labs=all at *
     have lal:all.length<=100:=by rw [<-hall,List.length_append];omega
     ((iterate 4 revert K);refine lu ?_;intro K hK K hK K hK)
     refine bo (ι:=Nat) 12 (fun k=>[(7, .v (.int .i64 k)),(8, .undef),(9, .undef),(10, .undef),(11, .undef)]) (fun k=>all.length - k) (fun k=>k<=all.length∧ ∀(j:Nat) (h:j<all.length),j<k->cb A s all[j]=cb B s all[j]) 0 ⟨Nat.zero_le _,fun j _ h=>absurd h (Nat.not_lt_zero _)⟩ ?_ ?_
     ·refine bp ?_ aj
      all_goals rfl
     ·rintro k ⟨hk,hd2⟩ K hK;have eWk:=ak (k:=k) (by omega)
      ((iterate 4 revert K);refine lu ?_;iterate 5 intro K hK)
      refine bC.part (fun h4=> ?_) (fun h4=> ?_)
      ·have hkl:k<all.length:=by replace h4:=Ow h4;omega
       have eG:=getD_map encS all k [] hkl;simp only [encS] at eG;have CA:=SA s all[k];have CB:=SB s all[k]
       have bad:cb A s all[k]≠cb B s all[k]->rv=false:=fun hne=>hin (by
        cases q:sameAt A B s
        ·rfl
        ·exact absurd (hrow.1 q _ (List.getElem_mem hkl)) hne)
       have good:cb A s all[k]=cb B s all[k]-> ∀(j:Nat) (h:j<all.length),j<k+1->cb A s all[j]=cb B s all[j]:=fun he j hj hjk=>by
        rcases W8.1 hjk with q|rfl
        ·exact hd2 j hj q
        ·exact he
       repeat (first|(with_reducible first|refine aA.up ?_|refine fun (K:AK) hK=> ?_|refine wD ?_|refine ae (by decide) ?_|refine ah (by decide) ?_|(refine hK _ ?_;clear hK K))|simp only [go_sem,h4,eG]|with_reducible refine wA ?_|(refine ck rfl ?_)|clear hK K)
       refine ab.one CA ?_
       cases q1:cb A s all[k] with
       | none=>
        simp only [stepT,WK,WL]
        repeat (first|(with_reducible first|refine aA.up ?_|refine fun (K:AK) hK=> ?_|refine wD ?_|refine ae (by decide) ?_|refine ah (by decide) ?_|(refine hK _ ?_;clear hK K))|simp only [go_sem,h4,eG]|with_reducible refine wA ?_|(refine ck rfl ?_)|clear hK K)
        refine ab.one CB ?_
        cases q2:cb B s all[k] with
        | none=>
         simp only [stepT,WK,WL]
         ((iterate 7 revert K);refine Bk ?_)
         refine u6 eWk ?_;exact az.mk (k+1) ⟨hkl,good (by rw [q1,q2])⟩ (by omega) (by exact aO aj)
        | some b=>
         simp only [stepT,Wb,WN]
         have:=bad (by rw [q1,q2];simp)
         ((iterate 7 revert K);refine Bk ?_)
         rw [this]
       | some a=>
        simp only [stepT,Wb,WN]
        repeat (first|(with_reducible first|refine aA.up ?_|refine fun (K:AK) hK=> ?_|refine wD ?_|refine ae (by decide) ?_|refine ah (by decide) ?_|(refine hK _ ?_;clear hK K))|simp only [go_sem,h4,eG]|with_reducible refine wA ?_|(refine ck rfl ?_)|clear hK K)
        refine ab.one CB ?_
        cases q2:cb B s all[k] with
        | none=>
         simp only [stepT,WK,WL]
         have:=bad (by rw [q1,q2];simp)
         ((iterate 7 revert K);refine Bk ?_)
         rw [this]
        | some b=>
         simp only [stepT,Wb,WN]
         by_cases hab:a=b
         ·have f1:((a:Int) !=(b:Int))=false:=by rw [hab];simp
          ((iterate 7 revert K);refine G7 f1 ?_)
          refine u6 eWk ?_;exact az.mk (k+1) ⟨hkl,good (by rw [q1,q2,hab])⟩ (by omega) (by exact aO aj)
         ·have f1:((a:Int) !=(b:Int))=true:=by rw [bne_iff_ne];omega
          have:=bad (by rw [q1,q2];simpa using hab)
          ((iterate 7 revert K);refine G7 f1 ?_)
          rw [this]
      ·have hkn:k=all.length:=by replace h4:=Ow h4;omega
       have hsm2:sameAt A B s=true:=hrow.2 fun l hl=>by
        obtain ⟨j,hj,rfl⟩:=List.getElem_of_mem hl;exact hd2 j hj (by omega)
       ((iterate 5 revert K);refine lu ?_)
       refine u6 eW ?_;refine az.mk (s+1) ⟨hlt,fun t ht=> ?_⟩ (by omega) (by exact aO aj)
       rcases W8.1 ht with q|rfl
       ·exact hd t q
       ·exact hsm2
    ·have:(e1==e2)=false:=h3
     rw [this,Bool.false_and] at hsm
     ((iterate 4 revert K);refine lu ?_)
     rw [hin hsm]
   ·have hs':s=A.rows.length:=by replace h2:=Ow h2;omega
    have hf2:rv=true:=by
     rw [<-hf,Vj];intro t ht;exact hd t (by rw [List.mem_range] at ht;omega)
    ((iterate 3 revert K);refine lu ?_)
    rw [hf2]
section
structure QC (b:Nat) (w w':World):Prop where
 os:w'.os=w.os
 tape:w'.tape=w.tape
 output:w'.output=w.output
 size:w.heap.size<=w'.heap.size
 same: ∀k,k<w.heap.size->k≠b->w'.heap[k]? = w.heap[k]?
theorem uR {x:Ex} {labs:List ByteArray} {e:Int} (h:iF x labs = .inr e):e=2∨e=11:=by
 unfold iF at h
 split at h
 ·split at h
  ·split at h
   ·cases h;exact .inr rfl
   ·cases h
  ·cases h;exact .inr rfl
 ·cases h;exact .inl rfl
theorem uy (x y:Ex) (w:List ByteArray) (kx:x.ok) (ky:y.ok):ar Tryz.prog 3 [.agg (aS x), .agg (aS y),aZ w] (.v (.bool true)):=by
 have W:=DW;have NX:=sa x kx;have NY:=sa y ky;have ZX:=vv x 0 (by omega);have ZY:=vv y 0 (by omega);have bx:=xQ x 0 (by omega);have bY:=xQ y 0 (by omega)
 have eS:IntKind.i64.wrap (((sX x 0:Nat):Int)+((sX y 0:Nat):Int))=((sX x 0+sX y 0:Nat):Int):=by rw [dr (by omega) (by omega)];omega
 rcases VT (decide (300<((sX x 0+sX y 0:Nat):Int))) with hz|hz
 ·simp only [aD,aZ] at *;refine gE Tryz.func3 Tryz.ntmps3 Tryz.results3 ?_
  (refine cn ?_;intro K hK K hK K hK)
  refine ba.one ZX ?_
  ((iterate 3 revert K);refine cn ?_;intro K hK K hK K hK)
  refine ba.one ZY ?_
  ((iterate 3 revert K);refine G4 hz eS ?_;intro K hK K hK K hK)
  refine ab.one W ?_
  ((iterate 3 revert K);exact va)
 rcases VT (decide (40<((w.length:Nat):Int))) with hz2|hz2
 ·simp only [aD,aZ] at *;refine gE Tryz.func3 Tryz.ntmps3 Tryz.results3 ?_
  (refine cn ?_;intro K hK K hK K hK)
  refine ba.one ZX ?_
  ((iterate 3 revert K);refine cn ?_;intro K hK K hK K hK)
  refine ba.one ZY ?_
  ((iterate 3 revert K);refine xi hz hz2 eS ?_;intro K hK K hK K hK)
  refine ab.one W ?_
  ((iterate 3 revert K);exact va)
 have hz':=of_decide_eq_false hz
 have hw:w.length<=1000000:=by have:=of_decide_eq_false hz2;omega
 obtain ⟨p1,p2⟩:=qS kx (by omega);obtain ⟨r1,r2⟩:=qS ky (by omega);have MX:=C6 x p1 p2;have MY:=C6 y r1 r2;have L:=zo w hw;have KE:=ze w hw;rw [xD] at NX NY;rw [EY] at MX MY
 have dE: ∀e:Int,e=2∨e=11->(e !=0)=true:=fun e h=>by rcases h with rfl|rfl<;>rfl
 
 obtain ⟨c,d,f,NY,MY,wc,wd,hf⟩: ∃c d:AV, ∃f:Int,ar Tryz.prog 9 [.agg (aS y)] (.cL [c, .v (.int .i64 f)])∧ar Tryz.prog 10 [.agg (aS y)] (.cL [d, .v (.int .i64 f)])∧(∀n,c.wf n=true)∧(∀n,d.wf n=true)∧((f !=0)=true∨(f=0∧ ∃B,FI B∧c = .vp (dc B)∧d = .vp (jz B))):=by
  cases hy:iF y (bW y) with
  | inr f=>rw [hy] at NY MY;exact ⟨_,_,f,NY,MY,fun _=>rfl,fun _=>rfl, .inl (dE f (uR hy))⟩
  | inl B=>rw [hy] at NY MY;exact ⟨_,_,0,NY,MY,fun n=>by rw [AV.wf];exact kC n B,fun n=>by rw [AV.wf];exact rD n B, .inr ⟨rfl,B,(q8 hy).2.2.2,rfl,rfl⟩⟩
 cases hx:iF x (bW x) with
 | inr e=>
  have d1:=dE e (uR hx);rw [hx] at NX MX;simp only at NX MX;clear hf;simp only [aD,aZ] at *;refine gE Tryz.func3 Tryz.ntmps3 Tryz.results3 ?_
  (refine cn ?_;intro K hK K hK K hK)
  refine ba.one ZX ?_
  ((iterate 3 revert K);refine cn ?_;intro K hK K hK K hK)
  refine ba.one ZY ?_
  ((iterate 3 revert K);refine xi hz hz2 eS ?_;intro K hK K hK)
  refine ab.one NX ?_
  (revert K;revert K;refine cn ?_;intro K hK K hK)
  refine ab.one NY ?_
  (revert K;revert K;refine cn ?_;intro K hK K hK)
  refine ab.one MX ?_
  (revert K;revert K;refine cn ?_;intro K hK K hK)
  refine ab.one MY ?_
  repeat (first|(with_reducible first|refine aA.up ?_|refine fun (K:AK) hK=> ?_|refine wD ?_|(refine hK _ ?_;clear hK K))|simp only [go_sem,d1,bne_self_eq_false,beq_self_eq_true,W9,Xa,Go.undef]|with_reducible refine wA ?_|clear hK K)
  refine ab.one W ?_
  ((iterate 3 revert K);exact va)
 | inl A=>
  have LA:=(q8 hx).2.2.2;rw [hx] at NX MX;simp only at NX MX;have wa: ∀m,aX m (dc A)=true:=fun m=>kC m A;have wr: ∀m,aX m (jz A)=true:=fun m=>rD m A;have C1:=Kv A LA.toAOk w hw;have C2:=Ly LA w hw
  rcases hf with d1|⟨rfl,B,LB,rfl,rfl⟩
  ·clear C1 C2;generalize dc A=nv at *;generalize jz A=rv at *;simp only [aD,aZ] at *;refine gE Tryz.func3 Tryz.ntmps3 Tryz.results3 ?_
   (refine cn ?_;intro K hK K hK K hK)
   refine ba.one ZX ?_
   ((iterate 3 revert K);refine cn ?_;intro K hK K hK K hK)
   refine ba.one ZY ?_
   ((iterate 3 revert K);refine xi hz hz2 eS ?_;intro K hK K hK)
   refine ab.one NX ?_
   (revert K;revert K;refine cn ?_;intro K hK K hK)
   refine ab.one NY ?_
   (revert K;revert K;refine cn ?_;intro K hK K hK)
   refine ab.one MX ?_
   (revert K;revert K;refine cn ?_;intro K hK K hK)
   refine ab.one MY ?_
   repeat (first|(with_reducible first|refine aA.up ?_|refine fun (K:AK) hK=> ?_|refine wD ?_|(refine hK _ ?_;clear hK K))|simp only [go_sem,d1,bne_self_eq_false,beq_self_eq_true,W9,Xa,Go.undef]|with_reducible refine wA ?_|clear hK K)
   refine ab.one W ?_
   ((iterate 3 revert K);exact va)
  ·have S1:=wV LA LB;have S2:=Lx LA LB;have C1':=C1.le (args':=[.vp (dc A), .aC 1 (w.map encS++marksOf iH) w.length]) (by simp only [aX,AV.wf,wa,iZ,bm,qv,Bool.and_self]) (.cons (.refl _) (.cons (Le.rows (fun x _=>AD.refl _)) .nil));clear C1;have wb: ∀m,aX m (dc B)=true:=fun m=>kC m B;have wrb: ∀m,aX m (jz B)=true:=fun m=>rD m B;generalize bK A.rows A.ends 0 w=tk at *;generalize mv A B=sm at *;generalize dc A=nv at *;generalize jz A=rv at *;generalize dc B=nb at *;generalize jz B=rb at *;simp only [aD,aZ] at *;refine gE Tryz.func3 Tryz.ntmps3 Tryz.results3 ?_
   (refine cn ?_;intro K hK K hK K hK)
   refine ba.one ZX ?_
   ((iterate 3 revert K);refine cn ?_;intro K hK K hK K hK)
   refine ba.one ZY ?_
   ((iterate 3 revert K);refine xi hz hz2 eS ?_;intro K hK K hK)
   refine ab.one NX ?_
   (revert K;revert K;refine cn ?_;intro K hK K hK)
   refine ab.one NY ?_
   (revert K;revert K;refine cn ?_;intro K hK K hK)
   refine ab.one MX ?_
   (revert K;revert K;refine cn ?_;intro K hK K hK)
   refine ab.one MY ?_
   repeat (first|(with_reducible first|refine aA.up ?_|refine fun (K:AK) hK=> ?_|refine wD ?_|(refine hK _ ?_;clear hK K))|simp only [go_sem,bne_self_eq_false,beq_self_eq_true,W9,Xa,Go.undef]|with_reducible refine wA ?_|clear hK K)
   refine ab.one L ?_
   repeat (first|(with_reducible first|refine aA.up ?_|refine fun (K:AK) hK=> ?_|refine wD ?_|(refine hK _ ?_;clear hK K))|simp only [go_sem,bne_self_eq_false,beq_self_eq_true,W9,Xa,Go.undef]|with_reducible refine wA ?_|clear hK K)
   refine ab.one C1' ?_
   repeat (first|(with_reducible first|refine aA.up ?_|refine fun (K:AK) hK=> ?_|refine wD ?_|(refine hK _ ?_;clear hK K))|simp only [go_sem,bne_self_eq_false,beq_self_eq_true,W9,Xa,Go.undef]|with_reducible refine wA ?_|clear hK K)
   refine ab.one C2 ?_
   repeat (first|(with_reducible first|refine aA.up ?_|refine fun (K:AK) hK=> ?_|refine wD ?_|(refine hK _ ?_;clear hK K))|simp only [go_sem,bne_self_eq_false,beq_self_eq_true,W9,Xa,Go.undef]|with_reducible refine wA ?_|clear hK K)
   refine ab.one S1 ?_
   repeat (first|(with_reducible first|refine aA.up ?_|refine fun (K:AK) hK=> ?_|refine wD ?_|(refine hK _ ?_;clear hK K))|simp only [go_sem,bne_self_eq_false,beq_self_eq_true,W9,Xa,Go.undef]|with_reducible refine wA ?_|clear hK K)
   refine ab.one S2 ?_
   repeat (first|(with_reducible first|refine aA.up ?_|refine fun (K:AK) hK=> ?_|refine wD ?_|(refine hK _ ?_;clear hK K))|simp only [go_sem,bne_self_eq_false,beq_self_eq_true,W9,Xa,Go.undef]|with_reducible refine wA ?_|clear hK K)
   refine ab.one KE ?_
   repeat (first|(with_reducible first|refine aA.up ?_|refine fun (K:AK) hK=> ?_|refine wD ?_|(refine hK _ ?_;clear hK K))|simp only [go_sem,bne_self_eq_false,beq_self_eq_true,W9,Xa,Go.undef]|with_reducible refine wA ?_|clear hK K)
   refine ab.one W ?_
   (revert K;revert K;exact va)
open Go.ChangeShapes Go.WideShapes Go.ChangeAt Go.WideMaps Go.WideElems Go.RowKit
namespace dfaWords
theorem own:ownKnob Tryz.prog.godebug=none:=by kernel_rfl
theorem laid:laidOutB Tryz.prog=true:=by kernel_rfl
theorem GL (H:Type) (enc:TypeId×Value->H) (W:World) (args:Array Value) (ds gs:List (DataW H)) (before:List MemPlace) (base:Nat)
  (hval: ∀(j:Nat) t v,Tryz.f3.params[j]? = some t->args[j]? = some v->Value.okWide Tryz.prog W .any base t v)
  (hW:DataW.Whole enc Tryz.prog Tryz.f3.params.toList Rows.dfaWordsSpec.vars false W args.toList ds gs before)
  (hsz:(DataW.weightsEach Tryz.prog (Tryz.f3.params.toList++Rows.dfaWordsSpec.plain.varTypes Tryz.prog) (ds++gs)).all (· <= reachBytes)=true)
  (hL:laidMetH Tryz.prog Rows.dfaWordsRow.laid W) :
  Calls Tryz.prog 3 args W fun e W'=> ∃v,e = .returned v∧Rows.dfaWordsSpec.post enc Tryz.prog Tryz.f3 false true false false W args v W':=by
 have hW':=hW;have hlt:=hW.lt;obtain ⟨p,q,hA,hV,rfl,hfz,hnd⟩:=hW;rw [Tryz.params3] at hA hsz hval;obtain ⟨v0,v1,v2,d0,d1,d2,p0,p1,p2,rfl,rfl,rfl,h0,h1,h2⟩:=trodAll_three hA;obtain ⟨rfl,rfl⟩:=trodVars_none hV
 have z0: ∀k∈d0.weights Tryz.prog 25,k<=reachBytes:=fun k hk=>by
  have:=Vj.1 hsz k (DataW.weights_mem_each (j:=0) (t:=25) (d:=d0) rfl rfl k hk)
  simpa using this
 have z1: ∀k∈d1.weights Tryz.prog 25,k<=reachBytes:=fun k hk=>by
  have:=Vj.1 hsz k (DataW.weights_mem_each (j:=1) (t:=25) (d:=d1) rfl rfl k hk)
  simpa using this
 have z2: ∀k∈d2.weights Tryz.prog 26,k<=reachBytes:=fun k hk=>by
  have:=Vj.1 hsz k (DataW.weights_mem_each (j:=2) (t:=26) (d:=d2) rfl rfl k hk)
  simpa using this
 obtain ⟨q0,c0,rfl,r0,o0⟩:=Dp h0 z0;obtain ⟨q1,c1,rfl,r1,o1⟩:=Dp h1 z1;obtain ⟨a2,n2,m2,rfl⟩:=okWide_slice Jt (hval 2 26 v2 rfl rfl);obtain ⟨q2,r2,o2,s2⟩:=FA h2 z2
 refine ((uy q0 q1 q2 o0 o1).Oc (w:=W) (vargs:= #[.agg c0.toArray, .agg c1.toArray, .slice a2 n2 m2]) ⟨rfl,fun i c x hc hx=> ?_⟩ (Ev hL)).mono fun e W' he=> ?_
 ·match i,hc,hx with
  | 0,hc,hx=>cases hc;cases hx;exact yN (fun _ _=>trivial) r0
  | 1,hc,hx=>cases hc;cases hx;exact yN (fun _ _=>trivial) r1
  | 2,hc,hx=>cases hc;cases hx;exact LN (fun _ _=>trivial) r2
  | i+3,hc,hx=>simp at hc
 obtain ⟨rfl,hb⟩:=he
 refine ⟨_,rfl,_,_,_,[],p0++(p1++p2),[],hW', ?_, ?_,rfl,hb.frame _,fun h=>by cases h⟩
 ·exact trodAll_mk1 (shut_bool Tryz.underlying4 _)
 ·exact trodAll_mk3 (Below.trod laid (by kernel_rfl) (of_decide_eq_true (by kernel_rfl)) h0 hb (fun x hx=>hlt x (by simp [hx]))) (Below.trod laid (by kernel_rfl) (of_decide_eq_true (by kernel_rfl)) h1 hb (fun x hx=>hlt x (by simp [hx]))) (Below.trod laid (by kernel_rfl) (of_decide_eq_true (by kernel_rfl)) h2 hb (fun x hx=>hlt x (by simp [hx])))
theorem GN (os:Os) (args:Array Value):laidMetH Tryz.prog Rows.dfaWordsRow.laid ((World.doorLaid Tryz.prog 400 os).forCall (fun _ _=>0) ⟨#[],args,[]⟩).memory:=
 laidMetH_of_parts3 (fuel:=8) (laidMet_of_run' 8 (by kernel_rfl) (by kernel_rfl)) (by kernel_rfl) (by kernel_rfl)
theorem lifted (os:Os) (started:os.Started) (H:Type) (enc:TypeId×Value->H) :
  ReturnsInHanded {} Tryz.checked os 3 .any (fun w args=>(Rows.dfaWordsSpec.pre enc Tryz.prog Tryz.f3 [] false w args∧laidMetH Tryz.prog Rows.dfaWordsRow.laid w)∧sizedMet enc Tryz.prog Tryz.f3 (OpenSpec.ofChange Rows.dfaWordsSpec) false w args)
   (Rows.dfaWordsSpec.post enc Tryz.prog Tryz.f3 false true false false):=by
 refine returnsInHanded_of_change_and (C:=Tryz.checked) (X:=fun w _=>laidMetH Tryz.prog Rows.dfaWordsRow.laid w) (fun _ _ _ hh h=>h.of_heap hh) own started (by kernel_rfl) Tryz.func3
  (ChangeSpec.witness_shaped (enc:=enc) (C:=Tryz.checked) (os:=os) (X:=fun w _=>laidMetH Tryz.prog Rows.dfaWordsRow.laid w) false (World.doorLaid Tryz.prog 400 os) #[.agg #[.int .i64 0, .string ⟨#[]⟩, .slice none 0 0], .agg #[.int .i64 0, .string ⟨#[]⟩, .slice none 0 0], .slice none 0 0] 8 rfl (World.shaped_of_RefB (by kernel_rfl) (by kernel_rfl)) (by kernel_rfl) (by kernel_rfl) (by kernel_rfl) (GN os _)) ?_
 intro W base args ds gs before hval hW _ hsz hL _;exact GL H enc W args ds gs before base hval hW hsz hL
theorem over:Rows.dfaWordsRow.holds Tryz.pinned (OpenSpec.ofChange Rows.dfaWordsSpec):=
 OpenClaim.holds_of_wide 3 Tryz.f3 rfl rfl rfl rfl rfl rfl rfl ⟨rfl,rfl,rfl,rfl,rfl⟩ rfl rfl rfl rfl rfl (by kernel_rfl) Tryz.func3 (by kernel_rfl)
  (of_decide_eq_true (by kernel_rfl)) (by unfold Func.isWrapper;first|(rw [if_pos (by decide+kernel)];kernel_rfl)|(rw [if_neg (by decide+kernel)];exact ⟨rfl,rfl⟩))
  (fun os started H enc _=>lifted os started H enc)
theorem proved:Rows.DfaWordsCardSaid:=
 Claim7.holds_tied_plain_at .later [] [.data, .data, .data] true _ false
  over (fun _ h=>by cases h) (by kernel_rfl) (fun _ h=>by cases h) dfaWords_row_tie rfl ⟨rfl,rfl⟩ (by kernel_rfl) rfl
  (fun f fn hf hfn=>by
   obtain rfl:f=3:=(T6 ((show Tryz.prog.funcNamed "kinescope/kinescopelaw09.DfaWords" = some 3 by kernel_rfl).symm.trans hf)).symm
   obtain rfl:fn=Tryz.f3:=(T6 (Tryz.func3.symm.trans hfn)).symm
   exact ⟨by kernel_rfl,fun j t ht=>by
    rw [Tryz.params3] at ht
    have hm:t∈[25,25,26]:=by simpa using Array.mem_of_getElem? ht
    have hall:([25,25,26].all fun u=> !Tryz.prog.wantsStandIn u)=true:=by kernel_rfl
    exact (show Tryz.prog.wantsStandIn t=false by simpa using Vj.1 hall t hm)⟩)
  (by kernel_rfl)
end dfaWords
theorem dfaWords_holds:Rows.DfaWordsCardSaid:=dfaWords.proved
#print axioms dfaWords_holds
end
end Go.Proofs.YtfflpdekojlnmaaGreatDoor
