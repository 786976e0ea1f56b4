/- texts of one claim, one behind the other. -/
import Derived.Test.YtlhhccmopfamhaaGreatDoorVLent
import Derived.Test.YtlhhccmopfamhaaGreatDoorVAbsV
import Derived.Test.YtlhhccmopfamhaaGreatDoorVRef08
import Derived.Test.YtlhhccmopfamhaaGreatDoorVMat
import Derived.Test.YtlhhccmopfamhaaGreatDoorVDfaQ
import Derived.Test.YtlhhccmopfamhaaGreatDoorProg
import Derived.Test.YtlhhccmopfamhaaGreatDoorVFen
import Derived.Test.YtlhhccmopfamhaaGreatDoorVRefR
import Derived.Test.YtlhhccmopfamhaaGreatDoorVPairsW
import Derived.Test.YtlhhccmopfamhaaGreatDoorVDfaK
set_option linter.unusedSimpArgs false
set_option linter.unusedVariables false
set_option maxRecDepth 100000
set_option maxHeartbeats 16000000
open Bool renaming and_eq_true -> aeW, or_eq_true -> afa, or_assoc -> ahg, and_self -> agp, eq_iff_iff -> af7, false_eq_true -> afq, true_and -> afi, eq_false_or_eq_true -> afQ, false_and -> afA, and_true -> afe
open List renaming getElem?_eq_getElem -> aes, length_append -> aem, range_succ -> agi, all_eq_true -> ae7, any_eq_true -> ahe, mem_range -> ae8, getElem?_set_ne -> aex, getD_eq_getElem?_getD -> aeS, map_cons -> afZ, map_nil -> agt, getElem?_append_right -> aeA, set_append_right -> agc, getElem?_cons_succ -> afs, length_cons -> ae0, length_nil -> aeg, cons_append -> afz, nil_append -> afy, set_cons_zero -> afH, getElem?_map -> aeu, append_assoc -> agx, map_map -> agB, length_map -> agv, replicate_succ -> afJ, map_append -> agN, length_singleton -> agz, take_succ_eq_append_getElem -> agD
open Nat renaming lt_or_ge -> aei, le_trans -> aee, add_sub_cancel_left -> ahf, zero_le -> aen, sub_self -> ae2
open Option renaming map_some -> aeE, map_none -> ag7
open Option.some renaming inj -> aec
namespace Go.Proofs.YtlhhccmopfamhaaGreatDoor
open Go.RowKit
open Go.Proofs.Tryz
def nZ(l:IO)(i:Nat):Ex:=l.getD i (.mk 0 ⟨#[]⟩ [])
theorem PJ{l:IO}{i:Nat}(h:i<l.length):nZ l i=l[i]:=by grind[nZ,aes]
theorem dY(x:Ex)(l:IO):nZ (x::l) 0=x:=rfl
theorem c9(x:Ex)(l:IO)(i:Nat):nZ (x::l) (i+1)=nZ l i:=rfl
def sr(b:Nat)(l:IO)(i:Nat):Nat:=b+(aV (l.take i)).length
theorem dU(b:Nat)(l:IO):sr b l 0=b:=by simp[sr,aV]
theorem c7(b:Nat)(x:Ex)(l:IO)(i:Nat):sr b (x::l) (i+1)=sr (b+(aI x).length) l i:=by
 grind[sr,aV,aem]
theorem JL:∀{l:IO}{b p:Nat},iW l b p ↔ ∃i,i<l.length∧mz (nZ l i) (sr b l i) p
 | [],b,p=>by simp[iW]
 |x::l,b,p=>by
  rw[iW,JL (l:=l)]
  constructor
  ·rintro(h|⟨i,u,q⟩)
   ·exact⟨0,zk,by rw[dY,dU];exact h⟩
   ·exact⟨i+1,ahn,by rw[c9,c7];exact q⟩
  ·rintro⟨i,u,q⟩
   cases i with
   |zero=>left;rw[dY,dU]at q;exact q
   |succ i=>right;rw[c9,c7]at q;exact⟨i,by simpa using u,q⟩
theorem JN:∀{l:IO}{b p:Nat},iX l b p ↔ ∃i,i<l.length∧ln (nZ l i) (sr b l i) p
 | [],b,p=>by simp[iX]
 |x::l,b,p=>by
  rw[iX,JN (l:=l)]
  constructor
  ·rintro(h|⟨i,u,q⟩)
   ·exact⟨0,zk,by rw[dY,dU];exact h⟩
   ·exact⟨i+1,ahn,by rw[c9,c7];exact q⟩
  ·rintro⟨i,u,q⟩
   cases i with
   |zero=>left;rw[dY,dU]at q;exact q
   |succ i=>right;rw[c9,c7]at q;exact⟨i,by simpa using u,q⟩
theorem B2:∀{l:IO}{b p q:Nat},jU l b p q ↔ ∃i,i<l.length∧kO (nZ l i) (sr b l i) p q
 | [],b,p,q=>by simp[jU]
 |x::l,b,p,q=>by
  rw[jU,B2 (l:=l)]
  constructor
  ·rintro(h|⟨i,A,u⟩)
   ·exact⟨0,zk,by rw[dY,dU];exact h⟩
   ·exact⟨i+1,ahn,by rw[c9,c7];exact u⟩
  ·rintro⟨i,A,u⟩
   cases i with
   |zero=>left;rw[dY,dU]at u;exact u
   |succ i=>right;rw[c9,c7]at u;exact⟨i,by simpa using A,u⟩
theorem B3:∀{l:IO}{b p:Nat},jx l b p ↔ ∃i,i<l.length∧(∀k,k<i->aS (nZ l k)=true)∧mz (nZ l i) (sr b l i) p
 | [],b,p=>by simp[jx]
 |x::l,b,p=>by
  rw[jx,B3 (l:=l)]
  constructor
  ·rintro(h|⟨O,i,H,u,q⟩)
   ·exact⟨0,zk,λk A=>zd,by rw[dY,dU];exact h⟩
   ·refine⟨i+1,ahn,λk A=>?_,by rw[c9,c7];exact q⟩
    cases k with
    |zero=>exact O
    |succ k=>exact u k zd
  ·rintro⟨i,H,u,q⟩
   cases i with
   |zero=>left;rw[dY,dU]at q;exact q
   |succ i=>
    right;rw[c9,c7]at q;exact⟨u 0 zd,i,by simpa using H,λk A=>u (k+1) zd,q⟩
theorem ES:∀{l:IO},dz l=true ↔ ∀k,k<l.length->aS (nZ l k)=true
 | []=>by simp[dz]
 |x::l=>by
  rw[dz,aeW,ES (l:=l)]
  constructor
  ·rintro⟨h,k⟩ j hj
   cases j with
   |zero=>exact h
   |succ j=>exact k j (by grind)
  ·intro h;exact⟨h 0 zk,λk q=>h (k+1) ahn⟩
theorem JO:∀{l:IO}{b p:Nat},lD l b p ↔ ∃i,i<l.length∧(∀k,i<k->k<l.length->aS (nZ l k)=true)∧ln (nZ l i) (sr b l i) p
 | [],b,p=>by simp[lD]
 |x::l,b,p=>by
  rw[lD,JO (l:=l),ES]
  constructor
  ·rintro(⟨O,h⟩|⟨i,H,u,q⟩)
   ·refine⟨0,zk,λk A hl=>?_,by rw[dY,dU];exact h⟩
    cases k with
    |zero=>omega
    |succ k=>exact O k (by simpa using hl)
   ·refine⟨i+1,ahn,λk A hl=>?_,by rw[c9,c7];exact q⟩
    cases k with
    |zero=>omega
    |succ k=>exact u k zd (by simpa using hl)
  ·rintro⟨i,H,u,q⟩
   cases i with
   |zero=>
    left;rw[dY,dU]at q;exact⟨λk A=>u (k+1) zd ahn,q⟩
   |succ i=>
    right;rw[c9,c7]at q;exact⟨i,by simpa using H,λk A hl=>u (k+1) zd ahn,q⟩
theorem JK:∀{l:IO}{b p q:Nat},jw l b p q↔(∃i,i<l.length∧kO (nZ l i) (sr b l i) p q)∨∃i k,i<k∧k<l.length∧(∀j,i<j->j<k->aS (nZ l j)=true)∧ln (nZ l i) (sr b l i) p∧mz (nZ l k) (sr b l k) q
 | [],b,p,q=>by simp[jw]
 |x::l,b,p,q=>by
  rw[jw,JK (l:=l),B3]
  constructor
  ·rintro(h|(⟨i,U,H⟩|⟨i,k,U,H,A,u,O⟩)|⟨h,k,U,H,A⟩)
   ·grind[dY,dU]
   ·grind[c9,c7]
   ·refine .inr ⟨i+1,k+1,zd,ahn,λj W V=>?_,by grind[c9,c7],by grind[c9,c7]⟩
    cases j with
    |zero=>omega
    |succ j=>exact A j zd zd
   ·refine .inr ⟨0,k+1,zd,ahn,λj W V=>?_,by grind[dY,dU],by grind[c9,c7]⟩
    cases j with
    |zero=>omega
    |succ j=>exact H j zd
  ·rintro(⟨i,U,H⟩|⟨i,k,U,H,A,u,O⟩)
   ·cases i with
    |zero=>grind[dY,dU]
    |succ i=>grind[c9,c7]
   ·cases k with
    |zero=>omega
    |succ k=>
     rw[c9,c7]at O
     cases i with
     |zero=>
      right;right;rw[dY,dU]at u;exact⟨u,k,by grind,λj Y=>A (j+1) zd zd,O⟩
     |succ i=>
      right;left;right;rw[c9,c7]at u;exact⟨i,k,zd,by grind,λj W V=>A (j+1) zd zd,u,O⟩
section
variable (s:Bool) (m:Nat) (Em:Nat->Bool) (F L:GT)
def wk(i k:Nat):Bool:=(List.range k).all λj=> !s||Em j
def wo(i k:Nat):Bool:=(List.range k).all λj=>decide (j<=i)||(!s||Em j)
def s7(i q:Nat):Bool:=(List.range i).any λj=>wk s Em j j&&F j q
def ti(i q:Nat):Bool:=(List.range i).any λj=>wo s Em j m&&L j q
def rH(i k:Nat):Bool:=s&&(List.range k).all λj=>decide (j<=i)||Em j
def pQ(i k p q:Nat):Bool:=(List.range k).any λj=>decide (i<j)&&rH s Em i j&&(L i p&&F j q)
def mD(i p q:Nat):Bool:=(List.range i).any λj=>pQ s Em F L j m p q
theorem Lu(i k:Nat):wk s Em i (k+1)=(wk s Em i k&&(!s||Em k)):=by grind[wk,agi]
theorem LM{i k:Nat}(h:i<k):wo s Em i (k+1)=(wo s Em i k&&(!s||Em k)):=by
 grind[wo,agi,decide,decide_eq_false]
theorem Oz(i:Nat):wo s Em i (i+1)=true:=by
 grind[wo,ae7]
theorem L6(i q:Nat):s7 s Em F (i+1) q=(s7 s Em F i q||(wk s Em i i&&F i q)):=by grind[s7,agi]
theorem Mv(i q:Nat):ti s m Em L (i+1) q=(ti s m Em L i q||(wo s Em i m&&L i q)):=by grind[ti,agi]
theorem Az{i k:Nat}(h:i<k):rH s Em i (k+1)=(rH s Em i k&&Em k):=by
 grind[rH,agi,decide,decide_eq_false,Bool.and_assoc]
theorem OC(i:Nat):rH s Em i (i+1)=s:=by
 have:((List.range (i+1)).all λj=>decide (j<=i)||Em j)=true:=by
  grind
 rw[rH,this,Bool.and_true]
theorem Bc{i k p q:Nat}(h:i<k):pQ s Em F L i (k+1) p q=(pQ s Em F L i k p q||(rH s Em i k&&(L i p&&F k q))):=by
 grind[pQ,agi]
theorem P7(i p q:Nat):pQ s Em F L i (i+1) p q=false:=by
 grind[pQ,List.any_eq_false,decide,decide_eq_false]
theorem Tb{i k j:Nat}(u:i<k)(h:rH s Em i k=false)(A:k<=j):rH s Em i j=false:=by
 induction j with
 |zero=>omega
 |succ j ih=>
  rcases aei j k with q|q
  ·grind
  ·rw[Az s Em zd,ih q,Bool.false_and]
theorem TX{i k j p q:Nat}(A:i<k)(h:rH s Em i k=false)(H:k<=j):pQ s Em F L i j p q=pQ s Em F L i k p q:=by
 induction j with
 |zero=>omega
 |succ j ih=>
  rcases aei j k with u|u
  ·grind
  ·rw[Bc s Em F L zd,ih u,Tb s Em A h u,Bool.false_and,Bool.or_false]
theorem L9(i p q:Nat):mD s m Em F L (i+1) p q=(mD s m Em F L i p q||pQ s Em F L i m p q):=by grind[mD,agi]
end
theorem O8{s:Bool}{m:Nat}{Em:Nat->Bool}{F:GT}{q:Nat}:s7 s Em F m q=true ↔ ∃i,i<m∧(s=true->∀k,k<i->Em k=true)∧F i q=true:=by
 simp only[s7,ahe,ae8,aeW,wk,ae7,afa,Bool.not_eq_true']
 grind
theorem PN{s:Bool}{m:Nat}{Em:Nat->Bool}{L:GT}{q:Nat}:ti s m Em L m q=true ↔ ∃i,i<m∧(s=true->∀k,i<k->k<m->Em k=true)∧L i q=true:=by
 simp only[ti,ahe,ae8,aeW,wo,ae7,afa,Bool.not_eq_true',decide_eq_true_eq]
 grind
theorem E4{s:Bool}{m:Nat}{Em:Nat->Bool}{F L:GT}{p q:Nat}:mD s m Em F L m p q=true↔s=true∧∃i k,i<k∧k<m∧(∀j,i<j->j<k->Em j=true)∧L i p=true∧F k q=true:=by
 simp only[mD,pQ,rH,ahe,ae8,aeW,ae7,afa,decide_eq_true_eq]
 grind[aei]
theorem yh{a:Act}{d:Nat}{v:Value}(h:d<a.tmps.size):(a.put (some d) v).eval (.tmp d)=v:=by
 simp[Act.put,Act.eval,Array.getD,h]
theorem VE(a:Act)(d:Option Tmp)(v:Value):(a.put d v).tmps.size=a.tmps.size:=by
 cases d<;>simp[Act.put]
theorem put_defers(a:Act)(d:Option Tmp)(v:Value):(a.put d v).defers=a.defers:=by
 cases d<;>rfl
section
variable {D:Nat->Prop} {nu:EQ} {o:AC} {w:World} {P:Program}
theorem gy.put{t:C5}{tm:Array Value}(h:gy D nu o w t tm){r:AV}{v:Value}(H:RA D nu o w r v)(d:Nat):gy D nu o w (t.set d r) (tm.setIfInBounds d v):=by
 refine⟨by simpa using h.len,λi c x q u=>?_⟩
 by_cases A:d=i
 ·subst A;have hl:=(List.getElem?_eq_some_iff.1 q).1;simp only[List.length_set]at hl;rw[List.getElem?_set_self hl]at q;rw[Array.getElem?_setIfInBounds_self_of_lt (by rw[<-h.len];exact hl)]at u;cases q;cases u;exact H
 ·rw[aex A]at q;rw[Array.getElem?_setIfInBounds_ne A]at u;exact h.at' i c x q u
theorem gy.kK{t:C5}{a:Act}(h:gy D nu o w t a.tmps){r:AV}{v:Value}(q:RA D nu o w r v)(d:Nat):gy D nu o w (t.set d r) (a.put (some d) v).tmps:=h.put q d
def qR(T U V:TypeId)(oc:Op)(ty:Nat->TypeId)(po:Nat->String)(af:Nat->Array Edge)(last:Oper):GE:=
 [⟨some 22,.move (.tmp 5),ty 0,po 0,af 0,none⟩,⟨some 23,.makeSlice T (.tmp 22) (.tmp 22),ty 1,po 1,af 1,none⟩,⟨some 24,.move (.tmp 5),ty 2,po 2,af 2,none⟩,⟨some 25,.makeSlice T (.tmp 24) (.tmp 24),ty 3,po 3,af 3,none⟩,
  ⟨some 26,.load U (.tmp 3),ty 4,po 4,af 4,none⟩,⟨some 27,oc,ty 5,po 5,af 5,none⟩,⟨some 28,.build V #[(0,.tmp 23),(1,.tmp 25),(2,.tmp 27)],ty 6,po 6,af 6,none⟩,⟨some 6,.alloc V,ty 7,po 7,af 7,none⟩,last]
def qe(t:C5)(ax:AV):C5:=((((t.set 22 .undef).set 23 .undef).set 24 .undef).set 25 .undef).set 26 ax
def si(t:C5)(N n:Nat)(em:Bool):C5:=
 ((((qe t .undef).set 27 .undef).set 28 (.agg [.vec N n,.vec (N+1) n,.v (.bool em)])).set 6 (.ptr (N+2) 0 3 0 0))
def spM(n0:Nat)(m:jW):Spec:=⟨λv w=>D7 n0 m v w,λ_ _ _ hb h=>h.below hb⟩
def spR(D:Nat->Prop)(nu:EQ)(o:AC)(r:AV):Spec:=⟨λv w=>RA D nu o w r v,λ_ _ _ hb h=>h.mono (aH hb) (λ_ _ h=>h)⟩
def spB(n0:Nat)(m1 m3:jW)(em:Bool):Spec:=⟨λv w=>∃v1 v3,v=.agg #[v1,v3,.bool em]∧D7 n0 m1 v1 w∧D7 n0 m3 v3 w∧∀b,cW v1=some b->cW v3≠some b,λ_ _ _ hb⟨v1,v3,h1,h2,h3,h4⟩=>⟨v1,v3,h1,h2.below hb,h3.below hb,h4⟩⟩
theorem D7.lt{n0:Nat}{m:jW}{v:Value}(h:D7 n0 m v w):∀b,cW v=some b->n0<=b∧∃cur,w.heap[b]?=some (.cells cur m.e (0,0)):=λb q=>by
 obtain⟨O,cap,cur,H,A,u,_⟩:=h;rw[H,jW.vC]at q;cases q;exact⟨A,cur,u⟩
theorem tH{S q:Spec}{r:Result Next}(h:zS P S w r)(hi:∀v w',S.p v w'->q.p v w'):zS P q w r:=by
 revert h
 cases r with
 |halt _ _=>exactλh=>h
 |ok n w'=>
  cases n<;>first|exactλh=>h|skip
  case value u=>exactλh=>⟨hi _ _ h.1,h.2⟩
  case skip=>exactλh=>⟨hi _ _ h.1,h.2⟩
  case enter f args=>
   exactλh=>Calls.mono h λe w'' H=>by
    obtain⟨v,rfl,A,O⟩:=H;exact⟨v,rfl,hi _ _ A,O⟩
theorem Qo{S:Spec}{r:Sem Next}{v:Value}{w':World}(h:r.run P w=.ok (.value v) w')(q:S.p v w')(u:Below w.heap.size w w'):zS P S w (r.run P w):=by
 rw[h];exact⟨q,u⟩
theorem YX{a:Act}{t:C5}{o:AC}{y:kB}(H:RO D nu o w)(h:gy D nu o w t a.tmps)(A:Operand):RA D nu o w (AS.ev ⟨t,o,y⟩ A) (a.eval A):=by
 cases A with
 |tmp q=>
  simp only[AS.ev,Act.eval]
  rcases aei q t.length with u|hge
  ·have O:t[q]?=some t[q]:=aes u
   have hlt':q<a.tmps.size:=by rw[<-h.len];exact u
   rw[getD_some O]
   have U:a.tmps.getD q Go.undef=a.tmps[q]:=by simp[Array.getD,hlt']
   rw[U];exact h.at' q _ _ O (Array.getElem?_eq_getElem hlt')
  ·rw[aeS,List.getElem?_eq_none hge];exact .undef _
 |const v=>exact .v v
 |global gi=>exact w9 H ⟨t,o,y⟩ gi
 |func f=>exact .fn f [] [] #[] #[] rfl rfl (λi c x h=>by simp at h) (λi c x h=>by simp at h)
theorem kC{t:C5}{o:AC}{y:kB}{d i:Nat}{v:AV}(h:d≠i):AS.ev ⟨t.set d v,o,y⟩ (.tmp i)=AS.ev ⟨t,o,y⟩ (.tmp i):=by
 simp[AS.ev,aeS,aex h]
theorem wY{t:C5}{o:AC}{y:kB}{d:Nat}{v:AV}(h:d<t.length):AS.ev ⟨t.set d v,o,y⟩ (.tmp d)=v:=by
 simp[AS.ev,aeS,h]
theorem D7.one{n0:Nat}{m:jW}{v:Value}(h:D7 n0 m v w):v.oneCell'=true:=by
 obtain⟨u,cap,cur,q,_⟩:=h;rw[q,jW.val];split<;>rfl
theorem LH{n0 id n z:Nat}{s:AS}{Q:bg->AS->Prop}{T U V:TypeId}{oc:Op}{ty:Nat->TypeId}{po:Nat->String}{af:Nat->Array Edge}{last:Oper}{ax:AV}{em:Bool}{p1 p7:Prop}{e:TypeId}{zc zr:C5}
  (hB:gW (qR T U V oc ty po af last).toArray 8=true)(hC:dO (qR T U V oc ty po af last).toArray=true)
  (hdp:bd (qR T U V oc ty po af last).toArray 1 0=true∧bd (qR T U V oc ty po af last).toArray 3 2=true∧bd (qR T U V oc ty po af last).toArray 5 4=true∧bd (qR T U V oc ty po af last).toArray 6 1=true∧bd (qR T U V oc ty po af last).toArray 6 3=true∧bd (qR T U V oc ty po af last).toArray 6 5=true)
  (hlen:29<=s.t.length)(hmv:s.ev (.tmp 5)=.v (.int .i64 n))(hm1:Cj P T (.v (.int .i64 n)) (.v (.int .i64 n))=some (p1,e,z,n,zc))(hp1:p1)(hal:Cc P V=some (p7,V,3,1,zr))(heV:e≠V)
  (hld:dM P (.load U (.tmp 3)) s (λr=>r=ax))(hcl:dM P oc ⟨qe s.t ax,s.o,s.y⟩ (λr=>r=.v (.bool em)))
  (hbd:∀v1 v3:Value,v1.oneCell'=true->v3.oneCell'=true->ru P V [(0,.v v1),(1,.v v3),(2,.v (.bool em))]=some (.agg [.v v1,.v v3,.v (.bool em)]))
  (h:fZ P (qR T U V oc ty po af last) [last] ⟨si s.t s.o.length n em,s.o++[some ⟨e,z,true,List.replicate n zc⟩,some ⟨e,z,true,List.replicate n zc⟩,some ⟨V,3,false,[zr]⟩],s.y⟩ (Q .normal)) :
  cD P n0 (.region id (qR T U V oc ty po af last).toArray true) s Q:=by
 refine .inr (λf m D nu a w hZr hn hm hs hmx R hO hR=>?_);have hs0:=hs.drew;obtain⟨d10,d32,d54,d61,d63,d65⟩:=hdp;have hsz:a.tmps.size=s.t.length:=hs.tm.len.symm
 have hwant:∀(i:Nat)(oo:Oper)(a':Act),oo.guard=none->Region.wanted oo (yielded (qR T U V oc ty po af last).toArray a'.tmps)=true:=λi oo a' hg=>by simp[Region.wanted,hg]

 have base:∀wr,Below w.drew.heap.size w.drew wr->RO D nu s.o wr∧gy D nu s.o wr s.t a.tmps:=λwr W=>⟨hs0.ro.below W,hs0.tm.mono (aH W) (λ_ _ h=>h)⟩
 refine uk hmx hC hO (mJ [spR D nu s.o (.v (.int .i64 n)),spM w.drew.heap.size ⟨23,1,e,z,n,zc,false⟩,spR D nu s.o (.v (.int .i64 n)),spM w.drew.heap.size ⟨25,3,e,z,n,zc,false⟩,spR D nu s.o ax,spR D nu s.o (.v (.bool em)),spB w.drew.heap.size ⟨23,1,e,z,n,zc,false⟩ ⟨25,3,e,z,n,zc,false⟩ em,spM w.drew.heap.size ⟨6,7,V,3,1,zr,true⟩]
  (λi=>i==1||i==3||i==7) (λi v w1 hf hp b u=>?_) 8 hB ⟨λx wr W hD hP=>?_,λx wr W hD hP=>?_,λx wr W hD hP=>?_,λx wr W hD hP=>?_,λx wr W hD hP=>?_,λx wr W hD hP=>?_,λx wr W hD hP=>?_,λx wr W hD hP=>?_,λx wr W hD hP=>?_⟩)
 ·simp only[afa,beq_iff_eq]at hf
  rcases hf with(rfl|rfl)|rfl<;>exact(Array.getElem?_eq_some_iff.1 ((D7.lt hp b u).2.choose_spec)).1
 ·refine .inl ⟨hwant 0 _ _ rfl,?_⟩;obtain⟨q,H⟩:=base wr W;obtain⟨r,rfl,O⟩:=lp (P:=P) (s:=s) (rho:=a.eval) (oo:=⟨some 22,.move (.tmp 5),ty 0,po 0,af 0,none⟩) (K:=λr=>r=.v (.int .i64 n)) q (λy _=>YX q H y) ⟨trivial,hmv⟩;exact tH O (λv w' hv=>⟨hv.2,λh=>absurd h zs⟩)
 ·refine .inl ⟨hwant 1 _ _ rfl,?_⟩;obtain⟨q,H⟩:=base wr W;have h0:RA D nu s.o wr (.v (.int .i64 n)) (x 0):=hD 0 d10;have e0:(a.put (some 22) (x 0)).eval (.tmp 22)=x 0:=yh zd;obtain⟨v,w',Y,A,h3⟩:=Aq (P:=P) (w:=wr) h0 h0 hm1 hp1 23 1
  have hrun:(execOp (a.put (some 22) (x 0)).eval ⟨some 23,.makeSlice T (.tmp 22) (.tmp 22),ty 1,po 1,af 1,none⟩).run P wr=.ok (.value v) w':=by
   simp only[execOp,e0,Sem.run_bind,Y,Result.andThen_ok,Sem.run_pure]
  show zS P _ wr ((execOp (a.put (some 22) (x 0)).eval ⟨some 23,.makeSlice T (.tmp 22) (.tmp 22),ty 1,po 1,af 1,none⟩).run P wr);rw[hrun];obtain⟨b,cap,cur,k1,k2,k3⟩:=h3;exact⟨⟨⟨b,cap,cur,k1,aee W.size k2,k3⟩,λ_ b' u=>by rw[k1,jW.vC]at u;cases u;exact k2⟩,A⟩
 ·refine .inl ⟨hwant 2 _ _ rfl,?_⟩;obtain⟨q,H⟩:=base wr W;have hr2:=(H.kK (.undef (x 0)) 22).kK (.undef (x 1)) 23
  obtain⟨r,rfl,O⟩:=lp (P:=P) (s:=⟨(s.t.set 22 .undef).set 23 .undef,s.o,s.y⟩) (rho:=((a.put (some 22) (x 0)).put (some 23) (x 1)).eval) (oo:=⟨some 24,.move (.tmp 5),ty 2,po 2,af 2,none⟩) (K:=λr=>r=.v (.int .i64 n)) q (λy _=>YX q hr2 y)
   ⟨trivial,by rw[kC zs,kC zs];exact hmv⟩
  exact tH O (λv w' hv=>⟨hv.2,λh=>absurd h zs⟩)
 ·refine .inl ⟨hwant 3 _ _ rfl,?_⟩;have h0:RA D nu s.o wr (.v (.int .i64 n)) (x 2):=hD 2 d32;have e0:(((a.put (some 22) (x 0)).put (some 23) (x 1)).put (some 24) (x 2)).eval (.tmp 24)=x 2:=yh (by rw[VE,VE];omega);obtain⟨v,w',Y,A,h3⟩:=Aq (P:=P) (w:=wr) h0 h0 hm1 hp1 25 3
  have hrun:(execOp (((a.put (some 22) (x 0)).put (some 23) (x 1)).put (some 24) (x 2)).eval ⟨some 25,.makeSlice T (.tmp 24) (.tmp 24),ty 3,po 3,af 3,none⟩).run P wr=.ok (.value v) w':=by
   simp only[execOp,e0,Sem.run_bind,Y,Result.andThen_ok,Sem.run_pure]
  show zS P _ wr ((execOp (((a.put (some 22) (x 0)).put (some 23) (x 1)).put (some 24) (x 2)).eval ⟨some 25,.makeSlice T (.tmp 24) (.tmp 24),ty 3,po 3,af 3,none⟩).run P wr);rw[hrun];obtain⟨b,cap,cur,k1,k2,k3⟩:=h3;exact⟨⟨⟨b,cap,cur,k1,aee W.size k2,k3⟩,λ_ b' u=>by rw[k1,jW.vC]at u;cases u;exact k2⟩,A⟩
 ·refine .inl ⟨hwant 4 _ _ rfl,?_⟩;obtain⟨q,H⟩:=base wr W;have hr4:=(((H.kK (.undef (x 0)) 22).kK (.undef (x 1)) 23).kK (.undef (x 2)) 24).kK (.undef (x 3)) 25
  obtain⟨r,rfl,O⟩:=lp (P:=P) (s:=⟨(((s.t.set 22 .undef).set 23 .undef).set 24 .undef).set 25 .undef,s.o,s.y⟩) (rho:=((((a.put (some 22) (x 0)).put (some 23) (x 1)).put (some 24) (x 2)).put (some 25) (x 3)).eval) (oo:=⟨some 26,.load U (.tmp 3),ty 4,po 4,af 4,none⟩) (K:=λr=>r=ax) q (λy _=>YX q hr4 y)
   (by simp only[dM,Hv,zV,kC (show 22≠3 by decide),kC (show 23≠3 by decide),kC (show 24≠3 by decide),kC (show 25≠3 by decide)]at hld⊢; exact hld)
  exact tH O (λv w' hv=>⟨hv.2,λh=>absurd h zs⟩)
 ·refine .inl ⟨hwant 5 _ _ rfl,?_⟩;obtain⟨q,H⟩:=base wr W;have h4:RA D nu s.o wr ax (x 4):=hD 4 d54;have hr5:=((((H.kK (.undef (x 0)) 22).kK (.undef (x 1)) 23).kK (.undef (x 2)) 24).kK (.undef (x 3)) 25).kK h4 26;obtain⟨r,rfl,O⟩:=lp (P:=P) (s:=⟨qe s.t ax,s.o,s.y⟩) (rho:=(((((a.put (some 22) (x 0)).put (some 23) (x 1)).put (some 24) (x 2)).put (some 25) (x 3)).put (some 26) (x 4)).eval) (oo:=⟨some 27,oc,ty 5,po 5,af 5,none⟩) (K:=λr=>r=.v (.bool em)) q (λy _=>YX q hr5 y) hcl;exact tH O (λv w' hv=>⟨hv.2,λh=>absurd h zs⟩)
 ·refine .inl ⟨hwant 6 _ _ rfl,?_⟩;obtain⟨q,H⟩:=base wr W;have Y:D7 w.drew.heap.size ⟨23,1,e,z,n,zc,false⟩ (x 1) wr:=hD 1 d61;have h3:D7 w.drew.heap.size ⟨25,3,e,z,n,zc,false⟩ (x 3) wr:=hD 3 d63;have h5:RA D nu s.o wr (.v (.bool em)) (x 5):=hD 5 d65;have hne:=hP 1 3 d61 d63 zs rfl rfl;have hr6:=(((((H.kK (.undef (x 0)) 22).kK (.v (x 1)) 23).kK (.undef (x 2)) 24).kK (.v (x 3)) 25).kK (.undef (x 4)) 26).kK h5 27;have u:=hbd (x 1) (x 3) Y.one h3.one
  obtain⟨v,q1,q2⟩:=lq (P:=P) (ev:=AS.ev ⟨(((((s.t.set 22 .undef).set 23 (.v (x 1))).set 24 .undef).set 25 (.v (x 3))).set 26 .undef).set 27 (.v (.bool em)),s.o,s.y⟩) (rho:=((((((a.put (some 22) (x 0)).put (some 23) (x 1)).put (some 24) (x 2)).put (some 25) (x 3)).put (some 26) (x 4)).put (some 27) (x 5)).eval)
   (oo:=⟨some 28,.build V #[(0,.tmp 23),(1,.tmp 25),(2,.tmp 27)],ty 6,po 6,af 6,none⟩) q (λy _=>YX q hr6 y) (p:=True) (r:= .agg [.v (x 1),.v (x 3),.v (.bool em)]) (by
    have e1:AS.ev ⟨(((((s.t.set 22 .undef).set 23 (.v (x 1))).set 24 .undef).set 25 (.v (x 3))).set 26 .undef).set 27 (.v (.bool em)),s.o,s.y⟩ (.tmp 23)=.v (x 1):=by
     rw[kC zs,kC zs,kC zs,kC zs];exact wY ahn
    have e3:AS.ev ⟨(((((s.t.set 22 .undef).set 23 (.v (x 1))).set 24 .undef).set 25 (.v (x 3))).set 26 .undef).set 27 (.v (.bool em)),s.o,s.y⟩ (.tmp 25)=.v (x 3):=by
     rw[kC zs,kC zs];exact wY ahn
    have e5:AS.ev ⟨(((((s.t.set 22 .undef).set 23 (.v (x 1))).set 24 .undef).set 25 (.v (x 3))).set 26 .undef).set 27 (.v (.bool em)),s.o,s.y⟩ (.tmp 27)=.v (.bool em):=wY ahn
    simp only[zV,afZ,agt,e1,e3,e5,u]) trivial
  have q3:=j0 (xs:=[x 1,x 3,.bool em]) q2;show zS P _ wr ((execOp ((((((a.put (some 22) (x 0)).put (some 23) (x 1)).put (some 24) (x 2)).put (some 25) (x 3)).put (some 26) (x 4)).put (some 27) (x 5)).eval ⟨some 28,.build V #[(0,.tmp 23),(1,.tmp 25),(2,.tmp 27)],ty 6,po 6,af 6,none⟩).run P wr);rw[q1];exact⟨⟨⟨x 1,x 3,q3,Y,h3,hne⟩,λh=>absurd h zs⟩,.refl _ _⟩
 ·refine .inl ⟨hwant 7 _ _ rfl,?_⟩;obtain⟨v,w',Y,A,h3⟩:=Ln (P:=P) (w:=wr) hal 6 7;refine Qo (v:=v) (w':=w') (by simp only[execOp,Sem.run_bind,Y,Result.andThen_ok,Sem.run_pure]) ?_ A;obtain⟨b,cap,cur,k1,k2,k3⟩:=h3;exact⟨⟨b,cap,cur,k1,aee W.size k2,k3⟩,λ_ b' u=>by rw[k1,jW.vC]at u;cases u;exact k2⟩
 ·obtain⟨q,H⟩:=base wr W;obtain⟨v1,v3,e6,m1,m3,hne⟩:(spB w.drew.heap.size ⟨23,1,e,z,n,zc,false⟩ ⟨25,3,e,z,n,zc,false⟩ em).p (x 6) wr:=hD 6 zs;have m7:D7 w.drew.heap.size ⟨6,7,V,3,1,zr,true⟩ (x 7) wr:=hD 7 zs
  have hdiff:∀v(mm:jW),mm.e=e->D7 w.drew.heap.size mm v wr->∀b,cW v=some b->cW (x 7)≠some b:=λv mm he hm b Y A=>by
   obtain⟨c1,k1⟩:=(hm.lt b Y).2;obtain⟨c2,k2⟩:=(m7.lt b A).2;rw[k1]at k2;simp only[Option.some.injEq,Obj.cells.injEq,and_true]at k2;exact heV (he.symm.trans k2.2)
  obtain⟨hmo,hro',hcl'⟩:=OH hs0.ro W [⟨23,1,e,z,n,zc,false⟩,⟨25,3,e,z,n,zc,false⟩,⟨6,7,V,3,1,zr,true⟩] (λi=>if i=0 then v1 else if i=1 then v3 else x 7) (λi mm hi=>by
   match i,hi with
   |0,hi=>cases hi;exact m1
   |1,hi=>cases hi;exact m3
   |2,hi=>cases hi;exact m7
   |i+3,hi=>simp at hi) (λi j hi hj hij b u=>by
   simp only[List.length_cons,List.length_nil]at hi hj
   match i,j,hi,hj,hij,u with
   |0,0,_,_,h,_=>exact absurd rfl h
   |0,1,_,_,_,u=>exact hne b u
   |0,2,_,_,_,u=>exact hdiff v1 _ rfl m1 b u
   |1,0,_,_,_,u=>exactλh=>hne b h u
   |1,1,_,_,h,_=>exact absurd rfl h
   |1,2,_,_,_,u=>exact hdiff v3 _ rfl m3 b u
   |2,0,_,_,_,u=>exactλh=>hdiff v1 _ rfl m1 b h u
   |2,1,_,_,_,u=>exactλh=>hdiff v3 _ rfl m3 b h u
   |2,2,_,_,h,_=>exact absurd rfl h
   |i+3,_,h,_,_,_=>omega
   |_,j+3,_,h,_,_=>omega)
  have c0:=hcl' 0 _ rfl;have c1:=hcl' 1 _ rfl;have c2:=hcl' 2 _ rfl;generalize NG nu s.o.length (λi=>if i=0 then v1 else if i=1 then v3 else x 7)=nu2 at *;have hra2:=hs0.tm.mono hmo (λ_ _ h=>h);simp only[jW.av,jW.ob,Bool.not_false,Bool.not_true,if_true,Bool.false_eq_true,if_false,Nat.add_zero,afZ,agt,Nat.one_ne_zero,List.replicate_succ,List.replicate_zero]at c0 c1 c2 hmo hro' hra2;have c2:RA D nu2 _ wr (.ptr (s.o.length+2) 0 3 0 0) (x 7):=c2
  have hagg:RA D nu2 (s.o++[some ⟨e,z,true,List.replicate n zc⟩,some ⟨e,z,true,List.replicate n zc⟩,some ⟨V,3,false,[zr]⟩]) wr (.agg [.vec s.o.length n,.vec (s.o.length+1) n,.v (.bool em)]) (x 6):=by
   rw[e6]
   refine .agg _ _ rfl (λi c y Y A=>?_) (λi y A=>?_)
   ·match i,Y,A with
    |0,Y,A=>cases Y;cases A;exact c0
    |1,Y,A=>cases Y;cases A;exact c1
    |2,Y,A=>cases Y;cases A;exact .v _
    |i+3,Y,A=>simp at Y
   ·match i,A with
    |0,A=>cases A;exact m1.one
    |1,A=>cases A;exact m3.one
    |2,A=>cases A;rfl
    |i+3,A=>simp at A
  have hra8:gy D nu2 (s.o++[some ⟨e,z,true,List.replicate n zc⟩,some ⟨e,z,true,List.replicate n zc⟩,some ⟨V,3,false,[zr]⟩]) wr (si s.t s.o.length n em) ((((((((a.put (some 22) (x 0)).put (some 23) (x 1)).put (some 24) (x 2)).put (some 25) (x 3)).put (some 26) (x 4)).put (some 27) (x 5)).put (some 28) (x 6)).put (some 6) (x 7)).tmps:=by
   refine gy.kK ?_ c2 6;refine gy.kK ?_ hagg 28;refine gy.kK ?_ (.undef (x 5)) 27;refine gy.kK ?_ (.undef (x 4)) 26;refine gy.kK ?_ (.undef (x 3)) 25;refine gy.kK ?_ (.undef (x 2)) 24;refine gy.kK ?_ (.undef (x 1)) 23;refine gy.kK ?_ (.undef (x 0)) 22;exact hra2
  generalize hA:((((((((a.put (some 22) (x 0)).put (some 23) (x 1)).put (some 24) (x 2)).put (some 25) (x 3)).put (some 26) (x 4)).put (some 27) (x 5)).put (some 28) (x 6)).put (some 6) (x 7))=a8 at hra8
  have hd8:a8.defers=a.defers:=by rw[<-hA];simp only[put_defers]
  show wpOps P (qR T U V oc ty po af last).toArray R (List.range' 8 ((qR T U V oc ty po af last).toArray.size-8)) ((((((((a.put (some 22) (x 0)).put (some 23) (x 1)).put (some 24) (x 2)).put (some 25) (x 3)).put (some 26) (x 4)).put (some 27) (x 5)).put (some 28) (x 6)).put (some 6) (x 7)) wr;rw[hA]
  have hs8:RS f D nu2 ⟨si s.t s.o.length n em,s.o++[some ⟨e,z,true,List.replicate n zc⟩,some ⟨e,z,true,List.replicate n zc⟩,some ⟨V,3,false,[zr]⟩],s.y⟩ a8 wr:=
   ⟨hro',hra8,by rw[hd8];exact hs0.mh.mono hs0.ro (aH W)⟩
  exact nJ (P:=P) (f:=f) (l:=qR T U V oc ty po af last) (R:=R) [last] 8 _ _ wr nu2 rfl (show 8<=9 by omega) hs8 h (λs' a' w' nu' q1 q2 q3 q4=>hR .normal D f.Z s' a' w' nu' (by rw[q2];exact m.own hm hs.ro ((aH (dE w)).trans (hmo.trans q1)) q3.ro) q3 q4)
theorem Hy{n0 id n z:Nat}{s:AS}{Q:bg->AS->Prop}{l:GE}(T U V:TypeId)(oc:Op){ax:AV}{em:Bool}{p1 p7:Prop}{e:TypeId}{zc zr:C5}
  (hl:l=qR T U V oc (λi=>(l.getD i default).type) (λi=>(l.getD i default).pos) (λi=>(l.getD i default).after) (l.getD 8 default))
  (hB:gW l.toArray 8=true)(hC:dO l.toArray=true)
  (W:bd l.toArray 1 0=true∧bd l.toArray 3 2=true∧bd l.toArray 5 4=true∧bd l.toArray 6 1=true∧bd l.toArray 6 3=true∧bd l.toArray 6 5=true)
  (hlen:29<=s.t.length)(u:s.ev (.tmp 5)=.v (.int .i64 n))(A:Cj P T (.v (.int .i64 n)) (.v (.int .i64 n))=some (p1,e,z,n,zc))(q:p1)(hal:Cc P V=some (p7,V,3,1,zr))(O:e≠V)
  (H:dM P (.load U (.tmp 3)) s (λr=>r=ax))(Y:dM P oc ⟨qe s.t ax,s.o,s.y⟩ (λr=>r=.v (.bool em)))
  (hbd:∀v1 v3:Value,v1.oneCell'=true->v3.oneCell'=true->ru P V [(0,.v v1),(1,.v v3),(2,.v (.bool em))]=some (.agg [.v v1,.v v3,.v (.bool em)]))
  (h:fZ P l [l.getD 8 default] ⟨si s.t s.o.length n em,s.o++[some ⟨e,z,true,List.replicate n zc⟩,some ⟨e,z,true,List.replicate n zc⟩,some ⟨V,3,false,[zr]⟩],s.y⟩ (Q .normal)) :
  cD P n0 (.region id l.toArray true) s Q:=by
 generalize(λi=>(l.getD i default).type)=ty at hl;generalize(λi=>(l.getD i default).pos)=po at hl;generalize(λi=>(l.getD i default).after)=af at hl;generalize l.getD 8 default=last at hl h;subst hl;exact LH hB hC W hlen u A q hal O H Y hbd h
end
open Classical in
noncomputable def mF(x:Ex)(b q:Nat):Bool:=decide (mz x b (q+1))
open Classical in
noncomputable def gG(x:Ex)(b q:Nat):Bool:=decide (ln x b (q+1))
open Classical in
noncomputable def mE(x:Ex)(b p q:Nat):Bool:=decide (kO x b (p+1) (q+1))
theorem j8{x:Ex}{b q:Nat}:mF x b q=true↔mz x b (q+1):=by simp[mF]
theorem ki{x:Ex}{b q:Nat}:gG x b q=true↔ln x b (q+1):=by simp[gG]
theorem mO{x:Ex}{b p q:Nat}:mE x b p q=true↔kO x b (p+1) (q+1):=by simp[mE]
theorem SL{I:AC}{z:Nat}(h:I.length=z)(tl:AC)(j:Nat):(I++tl)[z+j]?=tl[j]? :=by
 rw[aeA zd,h,ahf]
theorem xL{I:AC}{z:Nat}(h:I.length=z)(tl:AC):(I++tl)[z]?=tl[0]? :=by
 rw[aeA zd,h,Nat.sub_self]
theorem SN{I:AC}{z:Nat}(h:I.length=z)(tl:AC)(j:Nat)(x:Option aa):(I++tl).set (z+j) x=I++tl.set j x:=by
 rw[agc _ _ zd,h,ahf]
theorem xM{I:AC}{z:Nat}(h:I.length=z)(tl:AC)(x:Option aa):(I++tl).set z x=I++tl.set 0 x:=by
 rw[agc _ _ zd,h,Nat.sub_self]
theorem J2{n0 id n:Nat}{s:AS}{Q:bg->AS->Prop}{l:GE}{ax:AV}{em:Bool}(hn:n<=1000)
  (hl:l=qR 121 25 258 (.call ⟨.value (.func 173), #[.tmp 26], #[25]⟩) (λi=>(l.getD i default).type) (λi=>(l.getD i default).pos) (λi=>(l.getD i default).after) (l.getD 8 default))
  (U:gW l.toArray 8=true)(O:dO l.toArray=true)
  (A:bd l.toArray 1 0=true∧bd l.toArray 3 2=true∧bd l.toArray 5 4=true∧bd l.toArray 6 1=true∧bd l.toArray 6 3=true∧bd l.toArray 6 5=true)
  (hlen:29<=s.t.length)(q:s.ev (.tmp 5)=.v (.int .i64 n))
  (u:dM prog (.load 25 (.tmp 3)) s (λr=>r=ax))(H:aj prog 173 [ax] (.v (.bool em)))
  (h:fZ prog l [l.getD 8 default] ⟨si s.t s.o.length n em,s.o++[some ⟨4,1,true,dK n (λ_=>false)⟩,some ⟨4,1,true,dK n (λ_=>false)⟩,some ⟨258,3,false,[[.v (.slice none 0 0),.v (.slice none 0 0),.v (.bool false)]]⟩],s.y⟩ (Q .normal)) :
  cD prog n0 (.region id l.toArray true) s Q:=by
 have e1:Cj prog 121 (.v (.int .i64 n)) (.v (.int .i64 n))=some (0<=(n:Int)∧(n:Int)<=(n:Int)∧(n:Int).toNat*1<=140737488355328∧(n:Int).toNat<=140737488355328,4,1,n,[.v (.bool false)]):=by
  simp only[go_sem]
 have Y:Cc prog 258=some (True,258,3,1,[.v (.slice none 0 0),.v (.slice none 0 0),.v (.bool false)]):=by
  first|(simp only[go_sem];done)|(simp only[go_sem];rfl)
 rw[<-lz]at h
 refine Hy 121 25 258 _ hl U O A hlen q e1 ⟨zd,zd,zd,zd⟩ Y zs u ?_ (λv1 v3 W V=>?_) h
 ·have ev:AS.ev ⟨qe s.t ax,s.o,s.y⟩ (.tmp 26)=ax:=by rw[qe];exact wY ahn
  simp only[dM,afZ,agt,ev];exact bQ.one H rfl
 ·have c1:(AV.v v1).cells? = some [.v v1]:=by simp only[AV.cells?,W,if_true]
  have c3:(AV.v v3).cells? = some [.v v3]:=by simp only[AV.cells?,V,if_true]
  have c5:(AV.v (.bool em)).cells? = some [.v (.bool em)]:=rfl
  have tp:zE prog 258=some ([(0,1),(1,1),(2,1)],[.v (.slice none 0 0),.v (.slice none 0 0),.v (.bool false)]):=by
   simp only[go_sem]
  simp[ru,tp,sy,c1,c3,c5,Gn]
theorem JY{k:Nat}{y:Ex}{labs:B0}{n:Nat}{f:GT}{tl:AC}{r:AV}(u:k<=2*n+3)(q:∀m,r.wf m=true) :
  AFw k (some ⟨221,8,false,[pf 0 y labs.length n]⟩ ::some ⟨9,1,true,labs.map encS⟩ ::some ⟨121,1,true,bw 2 n n⟩ ::(bB n f n++tl)) r r (dt 0 y labs n f):=by
 refine⟨⟨.inr ⟨rfl,q _⟩,trivial⟩,?_,by rw[cC];exact u⟩
 have:=oU (n:=(dt 0 y labs n f).length) (a:=tl) (b:=[]) (l:=dt 0 y labs n f) (lj (by rw[cC];omega)) (by cases tl<;>exact trivial)
 rw[List.append_nil]at this;exact this
def OfC(x:Ex):Prop:=∀(y:Ex)(labs:B0)(n:Nat)(f:GT),n<=1000->labs.length+(aI x).length<=n ->
 bT prog 175 [.ptr 0 0 8 0 0,.agg (aP x)] (dt 0 y labs n f) (.agg [.aA 1 (dK n (mF x labs.length)) n,.aA 1 (dK n (gG x labs.length)) n,.v (.bool (aS x))]) (dt 0 y (labs++aI x) n (λp q=>f p q||mE x labs.length p q))
theorem WJ(s:ByteArray)(U:aD (.mk 1 s [])=true)(O:∀z,z∈aq (.mk 1 s [])->z.kids.length<=1000000∧z.label.size<=1000000000000000):OfC (.mk 1 s []):=by
 intro y labs n f hn hb;have E:=uJ (.mk 1 s []) (by simp[aq,b4]) O;rw[cH,U,Bool.true_and]at E;simp only[aB,Ex.kind,Ex.label,Ex.kids,agt,List.length_nil]at E⊢;refine gF func175 ntmps175 results175 ?_;simp only[dt,cA,pf,Nat.zero_add];obtain⟨I,A⟩:∃I,I=bB n f n:=⟨_,rfl⟩
 have u:I.length=2*n:=by rw[A,ai]
 rw[<-A];generalize 2*n=z at u;have g1:=λtl j=>SL u tl j;have g0:=λtl=>xL u tl;have s1:=λtl j x=>SN u tl j x;have s0:=λtl x=>xM u tl x
 repeat((fail_if_success (with_reducible refine ku (i:=2) ?_));first|(with_reducible first|refine bA.up ?_|refineλ(K:AK)hK=>?_|refine wK ?_|refine wF ?_|refine au zs ?_|refine ay zs ?_|(refine hK _ ?_;clear hK K))|simp only[go_sem,u,g0,g1,s0,s1,aem]|with_reducible refine wA ?_|clear hK K)
 refine J2 (n:=n) (em:=aS (.mk 1 s [])) (ax:= .agg [.v (.int .i64 1),.v (.string s),.aA 3 [] 0]) hn rfl za zo za zk rfl ?_ E ?_
 ·repeat(first|(with_reducible first|refine bA.up ?_|refineλ(K:AK)hK=>?_|refine wK ?_|refine wF ?_|refine au zs ?_|refine ay zs ?_|(refine hK _ ?_;clear hK K))|simp only[go_sem,u,g0,g1,s0,s1,aem]|with_reducible refine wA ?_|clear hK K)
 ·repeat(first|(with_reducible first|refine bA.up ?_|refineλ(K:AK)hK=>?_|refine wK ?_|refine wF ?_|refine au zs ?_|refine ay zs ?_|(refine hK _ ?_;clear hK K))|simp only[go_sem,u,g0,g1,s0,s1,aem,si,qe,List.getD_cons_succ,List.getD_cons_zero]|with_reducible refine wA ?_|clear hK K)
  repeat((fail_if_success (with_reducible refine ku (i:=4) ?_));first|(with_reducible first|refine bA.up ?_|refineλ(K:AK)hK=>?_|refine wK ?_|refine wF ?_|refine au zs ?_|refine ay zs ?_|(refine hK _ ?_;clear hK K))|simp only[go_sem,u,g0,g1,s0,s1,aem]|with_reducible refine wA ?_|clear hK K)
  refine bG [8,11] [] za zo ?_
  repeat(first|(with_reducible first|refine bA.up ?_|refineλ(K:AK)hK=>?_|refine wK ?_|refine wF ?_|refine au zs ?_|refine ay zs ?_|(refine hK _ ?_;clear hK K))|simp only[go_sem,u,g0,g1,s0,s1,aem]|with_reducible refine wA ?_|clear hK K)
  repeat((fail_if_success (with_reducible refine ku (i:=5) ?_));first|(with_reducible first|refine bA.up ?_|refineλ(K:AK)hK=>?_|refine wK ?_|refine wF ?_|refine au zs ?_|refine ay zs ?_|(refine hK _ ?_;clear hK K))|simp only[go_sem,u,g0,g1,s0,s1,aem]|with_reducible refine wA ?_|clear hK K)
  have H:labs.length<n:=by simp[aI]at hb;omega
  have eN:IntKind.i64.wrap (((labs.length+1:Nat):Int)-1)=(labs.length:Int):=by rw[bS zd zd];omega
  have eR:=dR (g:=λ_=>false) H;have eS:=tZ (N:=n) (j:=labs.length) (g:=λ_=>false) (v:=true);refine wE ?_
  repeat(first|(with_reducible first|refine bA.up ?_|refineλ(K:AK)hK=>?_|refine wK ?_|refine wF ?_|refine au zs ?_|refine ay zs ?_|(refine hK _ ?_;clear hK K))|simp only[go_sem,u,g0,g1,s0,s1,aem,eN,eR,eS]|with_reducible refine wA ?_|clear hK K)
  repeat((fail_if_success (with_reducible refine ku (i:=6) ?_));first|(with_reducible first|refine bA.up ?_|refineλ(K:AK)hK=>?_|refine wK ?_|refine wF ?_|refine au zs ?_|refine ay zs ?_|(refine hK _ ?_;clear hK K))|simp only[go_sem,u,g0,g1,s0,s1,aem,eN,eR,eS]|with_reducible refine wA ?_|clear hK K)
  refine wE ?_
  repeat((fail_if_success (with_reducible refine ku (i:=7) ?_));first|(with_reducible first|refine bA.up ?_|refineλ(K:AK)hK=>?_|refine wK ?_|refine wF ?_|refine au zs ?_|refine ay zs ?_|(refine hK _ ?_;clear hK K))|simp only[go_sem,u,g0,g1,s0,s1,aem,eN,eR,eS]|with_reducible refine wA ?_|clear hK K)
  refine bn (fL (k:=z+2+1+1+1+2) (i:=0) (j:=0) (id:=z+2+1+1+1) (len:=n) (ob:=⟨258,3,false,[[.vec (z+2+1+1+1) n,.vec (z+2+1+1+1+1) n,.v (.bool (aS (.mk 1 s [])))]]⟩) (row:=[.vec (z+2+1+1+1) n,.vec (z+2+1+1+1+1) n,.v (.bool (aS (.mk 1 s [])))]) (ob2:=⟨4,1,true,dK n (λq=>if q=labs.length then true else false)⟩)
    zd (by simp only[afs,g1];rfl) (show 0<3 by decide) rfl rfl (by simp only[afs,g1];rfl) rfl (lf _ _)) zo ?_
  simp only[List.set_cons_succ,s1,List.set_cons_zero]
  refine bn (fL (k:=z+2+1+1+1+2) (i:=0) (j:=1) (id:=z+2+1+1+1+1) (len:=n) (ob:=⟨258,3,false,[[.aA 1 (dK n (λq=>if q=labs.length then true else false)) n,.vec (z+2+1+1+1+1) n,.v (.bool (aS (.mk 1 s [])))]]⟩) (row:=[.aA 1 (dK n (λq=>if q=labs.length then true else false)) n,.vec (z+2+1+1+1+1) n,.v (.bool (aS (.mk 1 s [])))]) (ob2:=⟨4,1,true,dK n (λq=>if q=labs.length then true else false)⟩)
    zd (by simp only[afs,g1];rfl) (show 0<3 by decide) rfl rfl (by simp only[afs,g1];rfl) rfl (lf _ _)) zo ?_
  simp only[List.set_cons_succ,s1,List.set_cons_zero]
  repeat(first|(with_reducible first|refine bA.up ?_|refineλ(K:AK)hK=>?_|refine wE ?_|refine wK ?_|refine wF ?_|refine au zs ?_|refine ay zs ?_|(refine hK _ ?_;clear hK K))|simp only[go_sem,u,g0,g1,s0,s1,aem]|with_reducible refine wA ?_|clear hK K)
  have eF:mF (.mk 1 s []) labs.length=λq=>if q=labs.length then true else false:=by
   funext q
   rw[Bool.eq_iff_iff,j8];simp[mz]
  have eL:gG (.mk 1 s []) labs.length=λq=>if q=labs.length then true else false:=by
   funext q
   rw[Bool.eq_iff_iff,ki];simp[ln]
  have eO:bB n (λp q=>f p q||mE (.mk 1 s []) labs.length p q) n=I:=by
   rw[A];refine gP λp q _ _=>?_
   have:mE (.mk 1 s []) labs.length p q=false:=by rw[<-Bool.not_eq_true,mO];simp[kO]
   rw[this,Bool.or_false]
  have e1':(labs++[s]).map encS=labs.map encS++[[.v (.string s)]]:=by simp[encS]
  have Y:aI (.mk 1 s [])=[s]:=by simp[aI]
  have W:labs.length+[s].length=(labs++[s]).length:=zk
  have V:labs.length+1=(labs++[s]).length:=zk
  rw[eF,eL,eO,Y,W,V, <- e1',A];exact JY (by rw[<-ai n f n, <- A,u];omega) (λm=>by simp only[AV.wf,aQ,bp,Bool.and_self])
noncomputable def mN(f:GT)(b:Nat)(l:IO)(i p q:Nat):Bool:=f p q||(List.range i).any (λj=>mE (nZ l j) (sr b l j) p q)
theorem Tw(f:GT)(b:Nat)(l:IO):mN f b l 0=f:=by funext p q;simp[mN]
theorem Ij(f:GT)(b:Nat)(l:IO)(i:Nat):(λp q=>mN f b l i p q||mE (nZ l i) (sr b l i) p q)=mN f b l (i+1):=by
 funext p q
 rw[mN,mN,List.range_succ,List.any_append];simp[ahg]
def su(labs:B0)(l:IO)(i:Nat):B0:=labs++aV (l.take i)
theorem Vt(labs:B0)(l:IO):su labs l 0=labs:=by simp[su,aV]
theorem TU(labs:B0)(l:IO)(i:Nat):(su labs l i).length=sr labs.length l i:=by rw[su,aem,sr]
theorem yF{labs:B0}{l:IO}{i:Nat}(h:i<l.length):su labs l i++aI l[i]=su labs l (i+1):=by
 rw[su,su,List.take_succ_eq_append_getElem h,jK,List.append_assoc];simp[aV]
theorem PW{labs:B0}{l:IO}{i n:Nat}(h:i<l.length)(hn:labs.length+(aV l).length<=n):(su labs l i).length+(aI l[i]).length<=n:=by
 have e:(aV l).length=(aV (l.take (i+1))).length+(aV (l.drop (i+1))).length:=by rw[<-aem, <- jK,List.take_append_drop]
 have q:(su labs l i).length+(aI l[i]).length=(su labs l (i+1)).length:=by rw[<-aem,yF h]
 rw[q,su,aem];omega
noncomputable def Mq(n b:Nat)(l:IO)(j:Nat):C5:=[.aA 1 (dK n (mF (nZ l j) (sr b l j))) n,.aA 1 (dK n (gG (nZ l j) (sr b l j))) n,.v (.bool (aS (nZ l j)))]
noncomputable def o5(n b:Nat)(l:IO)(i:Nat):List C5:=(List.range i).map (Mq n b l)
theorem A8(n b:Nat)(l:IO)(i:Nat):(o5 n b l i).length=i:=by simp[o5]
theorem IG(n b:Nat)(l:IO)(i:Nat):o5 n b l (i+1)=o5 n b l i++[Mq n b l i]:=by rw[o5,List.range_succ,List.map_append];rfl
theorem PB{n b:Nat}{l:IO}{i j:Nat}(h:j<i):(o5 n b l i).getD j []=Mq n b l j:=by
 rw[List.getD_eq_getElem?_getD,o5,List.getElem?_map,List.getElem?_range h];rfl
theorem U8(m n b:Nat)(l:IO)(j:Nat):aQ m (Mq n b l j)=true:=by simp only[Mq,aQ,AV.wf,bp,agp]
theorem GN(m n b:Nat)(l:IO)(i:Nat):bE m (o5 n b l i)=true:=bt _ (U8 m n b l) _
theorem iC{m:Nat}{y:Ex}{labs:B0}{n:Nat}{f:GT}{tl q:AC}(h:2*n+3<=m)(u:zU m tl q) :
  zU m (some ⟨221,8,false,[pf 0 y labs.length n]⟩ ::some ⟨9,1,true,labs.map encS⟩ ::some ⟨121,1,true,bw 2 n n⟩ ::(bB n f n++tl))
   (some ⟨221,8,false,[pf 0 y labs.length n]⟩ ::some ⟨9,1,true,labs.map encS⟩ ::some ⟨121,1,true,bw 2 n n⟩ ::(bB n f n++q)):=
 oU (n:=m) (a:=tl) (b:=q) (l:=dt 0 y labs n f) (lj h) u
theorem iD{m:Nat}{a b c d:aa}{ex:AC}(H:bE m a.rows=true)(A:bE m b.rows=true)(u:bE m c.rows=true)(q:bE m d.rows=true) :
  zU m (some a::some b::none::none::some c::some d::ex) [some a,some b,none,none,some c,some d]:=
 ⟨.inr ⟨rfl,λob e=>by cases e;exact H⟩,.inr ⟨rfl,λob e=>by cases e;exact A⟩,.inl rfl,.inl rfl,.inr ⟨rfl,λob e=>by cases e;exact u⟩,.inr ⟨rfl,λob e=>by cases e;exact q⟩,by cases ex<;>exact trivial⟩
theorem nG(n:Nat)(f:GT)(tl:AC)(j:Nat):(bB n f n++tl)[2*n+j]?=tl[j]? :=SL (ai _ _ _) tl j
theorem tw(n:Nat)(f:GT)(tl:AC):(bB n f n++tl)[2*n]?=tl[0]? :=xL (ai _ _ _) tl
theorem nS(n:Nat)(f:GT)(tl:AC)(j:Nat)(x:Option aa):(bB n f n++tl).set (2*n+j) x=bB n f n++tl.set j x:=SN (ai _ _ _) tl j x
theorem tA(n:Nat)(f:GT)(tl:AC)(x:Option aa):(bB n f n++tl).set (2*n) x=bB n f n++tl.set 0 x:=xM (ai _ _ _) tl x
theorem ah.Zh{F:FuncId}{args:C5}{q:AV}{K:AV->AC->Prop}{y:Ex}{labs labs':B0}{n:Nat}{f f':GT}{tl:AC}
  (h:bT prog F (.ptr 0 0 8 0 0::args) (dt 0 y labs n f) q (dt 0 y labs' n f'))(u:∀m,aQ m args=true)(A:∀m,q.wf m=true)
  (k:K q (some ⟨221,8,false,[pf 0 y labs'.length n]⟩ ::some ⟨9,1,true,labs'.map encS⟩ ::some ⟨121,1,true,bw 2 n n⟩ ::(bB n f' n++tl))) :
  ah prog F (.ptr 0 0 8 0 0::args) (some ⟨221,8,false,[pf 0 y labs.length n]⟩ ::some ⟨9,1,true,labs.map encS⟩ ::some ⟨121,1,true,bw 2 n n⟩ ::(bB n f n++tl)) K:=by
 have e:(dt 0 y labs n f).length=2*n+3:=cC _ _ _ _ _;refine ah.sub (o0:=dt 0 y labs n f) (post:=tl) h (by rw[cC,cC]) ?_ (lj zd) (λob H=>lj zd ob H) (A _) k;rw[aQ,u,Bool.and_true,AV.wf,e];exact b0
theorem dP.Zh{F:FuncId}{args:C5}{q:AV}{K:AV->AC->Prop}{y:Ex}{labs labs':B0}{n:Nat}{f f':GT}{tl:AC}
  (h:bT prog F (.ptr 0 0 8 0 0::args) (dt 0 y labs n f) q (dt 0 y labs' n f'))(u:∀m,aQ m args=true)(A:∀m,q.wf m=true)
  (k:K q (some ⟨221,8,false,[pf 0 y labs'.length n]⟩ ::some ⟨9,1,true,labs'.map encS⟩ ::some ⟨121,1,true,bw 2 n n⟩ ::(bB n f' n++tl))) :
  dP prog F (.ptr 0 0 8 0 0::args) (some ⟨221,8,false,[pf 0 y labs.length n]⟩ ::some ⟨9,1,true,labs.map encS⟩ ::some ⟨121,1,true,bw 2 n n⟩ ::(bB n f n++tl)) K:=by
 have e:(dt 0 y labs n f).length=2*n+3:=cC _ _ _ _ _;refine dP.sub (o0:=dt 0 y labs n f) (post:=tl) h (by rw[cC,cC]) ?_ (lj zd) (λob H=>lj zd ob H) (A _) k;rw[aQ,u,Bool.and_true,AV.wf,e];exact b0
theorem TD{k:Int}{s:ByteArray}{l:IO}{b:Nat}(A:k≠1):s7 (k==2) (λj=>aS (nZ l j)) (λj=>mF (nZ l j) (sr b l j)) l.length=mF (.mk k s l) b:=by
 funext q
 rw[af7,O8,j8,mz,if_neg A]
 by_cases u:k=2
 ·rw[if_pos u,B3];simp only[u,beq_self_eq_true,forall_const,j8]
 ·rw[if_neg u,JL];simp only[beq_false_of_ne u,afq,false_implies,true_and,j8]
theorem TZ{k:Int}{s:ByteArray}{l:IO}{b:Nat}(A:k≠1):ti (k==2) l.length (λj=>aS (nZ l j)) (λj=>gG (nZ l j) (sr b l j)) l.length=gG (.mk k s l) b:=by
 funext q
 rw[af7,PN,ki,ln,if_neg A]
 by_cases u:k=2
 ·rw[if_pos u,JO];simp only[u,beq_self_eq_true,forall_const,ki]
 ·rw[if_neg u,JN];simp only[beq_false_of_ne u,afq,false_implies,true_and,ki]
theorem Ki{l:IO}{b p q:Nat}:(List.range l.length).any (λj=>mE (nZ l j) (sr b l j) p q)=true↔jU l b (p+1) (q+1):=by
 rw[B2];simp only[List.any_eq_true,List.mem_range,mO]
theorem TA{k:Int}{s:ByteArray}{l:IO}{b:Nat}{f:GT}(O:k≠1)(H:k≠4)(A:k≠5) :
  (λp q=>mN f b l l.length p q||mD (k==2) l.length (λj=>aS (nZ l j)) (λj=>mF (nZ l j) (sr b l j)) (λj=>gG (nZ l j) (sr b l j)) l.length p q)=λp q=>f p q||mE (.mk k s l) b p q:=by
 funext p q
 rw[mN,ahg]
 congr 1
 rw[af7,afa,Ki,E4,mO,kO,if_neg O]
 by_cases u:k=2
 ·rw[if_pos u,JK,B2];simp only[u,beq_self_eq_true,true_and,j8,ki]
 ·rw[if_neg u];simp only[beq_false_of_ne u,afq,false_and,or_false,H,A,or_self]
theorem Pb{k:Int}{s:ByteArray}{l:IO}{b:Nat}{f:GT}(A:k=4∨k=5) :
  (λp q=>(mN f b l l.length p q||mD (k==2) l.length (λj=>aS (nZ l j)) (λj=>mF (nZ l j) (sr b l j)) (λj=>gG (nZ l j) (sr b l j)) l.length p q)||(gG (.mk k s l) b p&&mF (.mk k s l) b q))=λp q=>f p q||mE (.mk k s l) b p q:=by
 have H:k≠1:=zd
 have u:k≠2:=zd
 funext p q
 rw[mN,ahg,ahg]
 congr 1
 rw[af7,afa,afa,aeW,Ki,E4,mO,kO,if_neg H,if_neg u,ki,j8,ln,if_neg H,if_neg u,mz,if_neg H,if_neg u];simp only[beq_false_of_ne u,afq,false_and,false_or,A,true_and]
theorem TT{k:Int}{s:ByteArray}{labs:B0}{l:IO}(q:k≠1):su labs l l.length=labs++aI (.mk k s l):=by rw[su,List.take_length,dL q]
theorem Ui(k:Int)(h1:k≠1)(s:ByteArray)(l:IO)(hr:aD (.mk k s l)=true)(hp:(aq (.mk k s l)).length<=1000000)(hz:∀z,z∈aq (.mk k s l)->z.kids.length<=1000000∧z.label.size<=1000000000000000)(H:∀x,x∈l->OfC x):OfC (.mk k s l):=by
 intro y labs n f hn hb;have f1:(k==1)=false:=beq_false_of_ne h1;have E:=uJ (.mk k s l) hp hz;rw[cH,hr,afi]at E;simp only[aB,Ex.kind,Ex.label,Ex.kids]at E⊢;have V:(bB n f n).length=2*n:=ai _ _ _;have g1:=λtl j=>SL V tl j;have g0:=λtl=>xL V tl;have s1:=λtl j x=>SN V tl j x;have s0:=λtl x=>xM V tl x;refine gF func175 ntmps175 results175 ?_;simp only[dt,cA,pf,Nat.zero_add]
 repeat((fail_if_success (with_reducible refine ku (i:=2) ?_));first|(with_reducible first|refine bA.up ?_|refineλ(K:AK)hK=>?_|refine wK ?_|refine wF ?_|refine au zs ?_|refine ay zs ?_|(refine hK _ ?_;clear hK K))|simp only[go_sem,V,g0,g1,s0,s1,aem]|with_reducible refine wA ?_|clear hK K)
 refine J2 (n:=n) (em:=aS (.mk k s l)) (ax:= .agg [.v (.int .i64 k),.v (.string s),.aA 3 (l.map aP) l.length]) hn rfl za zo za zk rfl ?_ E ?_
 ·repeat(first|(with_reducible first|refine bA.up ?_|refineλ(K:AK)hK=>?_|refine wK ?_|refine wF ?_|refine au zs ?_|refine ay zs ?_|(refine hK _ ?_;clear hK K))|simp only[go_sem,V,g0,g1,s0,s1,aem]|with_reducible refine wA ?_|clear hK K)
 ·repeat(first|(with_reducible first|refine bA.up ?_|refineλ(K:AK)hK=>?_|refine wK ?_|refine wF ?_|refine au zs ?_|refine ay zs ?_|(refine hK _ ?_;clear hK K))|simp only[go_sem,V,g0,g1,s0,s1,aem,si,qe,List.getD_cons_succ,List.getD_cons_zero]|with_reducible refine wA ?_|clear hK K)
  repeat((fail_if_success (with_reducible refine ku (i:=8) ?_));first|(with_reducible first|refine bA.up ?_|refineλ(K:AK)hK=>?_|refine wK ?_|refine wF ?_|refine au zs ?_|refine ay zs ?_|(refine hK _ ?_;clear hK K))|simp only[go_sem,f1,V,g0,g1,s0,s1,aem]|with_reducible refine wA ?_|clear hK K)
  refine bn (fL (k:=2*n+2+1+1+1+2) (i:=0) (j:=0) (id:=2*n+2+1+1+1) (len:=n) (ob:=⟨258,3,false,[[.vec (2*n+2+1+1+1) n,.vec (2*n+2+1+1+1+1) n,.v (.bool (aS (.mk k s l)))]]⟩) (row:=[.vec (2*n+2+1+1+1) n,.vec (2*n+2+1+1+1+1) n,.v (.bool (aS (.mk k s l)))]) (ob2:=⟨4,1,true,dK n (λ_=>false)⟩)
    zd (by simp only[afs,g1];rfl) (show 0<3 by decide) rfl rfl (by simp only[afs,g1];rfl) rfl (lf _ _)) zo ?_
  simp only[List.set_cons_succ,s1,List.set_cons_zero]
  refine bn (fL (k:=2*n+2+1+1+1+2) (i:=0) (j:=1) (id:=2*n+2+1+1+1+1) (len:=n) (ob:=⟨258,3,false,[[.aA 1 (dK n (λ_=>false)) n,.vec (2*n+2+1+1+1+1) n,.v (.bool (aS (.mk k s l)))]]⟩) (row:=[.aA 1 (dK n (λ_=>false)) n,.vec (2*n+2+1+1+1+1) n,.v (.bool (aS (.mk k s l)))]) (ob2:=⟨4,1,true,dK n (λ_=>false)⟩)
    zd (by simp only[afs,g1];rfl) (show 0<3 by decide) rfl rfl (by simp only[afs,g1];rfl) rfl (lf _ _)) zo ?_
  simp only[List.set_cons_succ,s1,List.set_cons_zero]
  repeat(first|(with_reducible first|refine bA.up ?_|refineλ(K:AK)hK=>?_|refine wE ?_|refine wK ?_|refine wF ?_|refine au zs ?_|refine ay zs ?_|(refine hK _ ?_;clear hK K))|simp only[go_sem,V,g0,g1,s0,s1,aem]|with_reducible refine wA ?_|clear hK K)
  clear g1 g0 s1 s0 V
  have hl24:l.length<=24:=by
   simp only[aD,aeW,decide_eq_true_eq]at hr
   have:=mj (.mk k s l);simp only[Ex.kids]at this;omega
  have hlab:labs.length+(aV l).length<=n:=by rw[dL h1]at hb;exact hb
  refine fN (ι:=Nat) 7 258 3 rfl zs 62 (λi=>[(7,.vec (2*n+5+1+1+1) i),(8,.v (.int .i64 i)),(9,.undef)]) (λi=>some ⟨221,8,false,[pf 0 y (su labs l i).length n]⟩ ::some ⟨9,1,true,(su labs l i).map encS⟩ ::some ⟨121,1,true,bw 2 n n⟩ ::(bB n (mN f labs.length l i) n++[some ⟨25,3,false,[[.v (.int .i64 k),.v (.string s),.aA 3 (l.map aP) l.length]]⟩,some ⟨258,3,false,[[.v (.slice none 0 0),.v (.slice none 0 0),.v (.bool false)]]⟩,none,none,some ⟨258,3,false,[[.aA 1 (dK n (λ_=>false)) n,.aA 1 (dK n (λ_=>false)) n,.v (.bool (aS (.mk k s l)))]]⟩,some ⟨258,3,true,o5 n labs.length l i⟩])) (λi=>l.length-i) (λi=>i<=l.length) 0 zd ?_ ?_
  ·refine ab ?_ ?_ ?_
   ·simp only[ae0,aem,ai,aeg];simp only[go_sem,iT,true_or,or_true,true_and,and_true,false_or,aeW,decide_eq_true_eq,AV.v.injEq,Value.int.injEq];omega
   ·simp only[Vt,Tw,List.cons_append,List.append_assoc];exact iC (by simp only[ae0,aem,ai,aeg];omega) (iD (by simp only[bE,aQ,AV.wf,bI,agp]) rfl (by simp only[bE,aQ,AV.wf,bp,agp]) rfl)
   ·simp only[ae0,aem,ai,aeg];omega
  ·intro i hi K hK
   (revert K;revert K;refine pK (qu @nG @tw @nS @tA @ai) ?_;intro K hK K hK K hK)
   refine cn.part (λh=>?_) (λh=>?_)
   ·have W:i<l.length:=by replace h:=cq h;omega
    have eW:=ae (k:=i) zd;have eG:=getD_map aP l i [] W;have HX:=H l[i] (List.getElem_mem W) y (su labs l i) n (mN f labs.length l i) hn (PW W hlab);rw[TU,yF W, <- PJ W,Ij]at HX;have hkr:=IG n labs.length l i;simp only[Mq]at hkr;rw[PJ W]at HX hkr;simp only[aB]at HX eG
    ((iterate 3 revert K);refine pK (nU eG @nG @tw @nS @tA @ai) ?_;iterate 5 intro K hK)
    refine ah.Zh HX (λm=>by simp only[aQ,AV.wf,bI,agp]) (λm=>by simp only[AV.wf,aQ,bp,agp]) ?_
    ((iterate 5 revert K);refine pK (Me eW @nG @tw @nS @tA @ai @A8) ?_)
    rw[<-hkr]
    refine aw.mk (i+1) zd zd (ab ?_ ?_ ?_)
    ·simp only[ae0,aem,ai,aeg];simp only[go_sem,iT,true_or,or_true,true_and,and_true,false_or,aeW,decide_eq_true_eq,AV.v.injEq,Value.int.injEq];omega
    ·exact iC (by simp only[ae0,aem,ai,aeg];omega) (iD (by simp only[bE,aQ,AV.wf,bI,agp]) rfl (by simp only[bE,aQ,AV.wf,bp,agp]) (GN _ _ _ _ _))
    ·simp only[ae0,aem,ai,aeg];omega
   ·have hie:i=l.length:=by replace h:=cq h;omega
    simp only[hie];have hKR:∀j,j<l.length->(o5 n labs.length l l.length).getD j []=[.aA 1 (dK n ((λj=>mF (nZ l j) (sr labs.length l j)) j)) n,.aA 1 (dK n ((λj=>gG (nZ l j) (sr labs.length l j)) j)) n,.v (.bool ((λj=>aS (nZ l j)) j))]:=λj hj=>PB hj;obtain⟨F,hF⟩:∃F:GT,F=λj=>mF (nZ l j) (sr labs.length l j):=⟨_,rfl⟩;obtain⟨L,hL⟩:∃L:GT,L=λj=>gG (nZ l j) (sr labs.length l j):=⟨_,rfl⟩;obtain⟨Em,hEm⟩:∃Em:Nat->Bool,Em=λj=>aS (nZ l j):=⟨_,rfl⟩;rw[<-hF, <- hL, <- hEm]at hKR;have u:=A8 n labs.length l l.length;have A:∀m,bE m (o5 n labs.length l l.length)=true:=λm=>GN m _ _ _ _;obtain⟨KR,hKe⟩:∃KR,KR=o5 n labs.length l l.length:=⟨_,rfl⟩;rw[<-hKe]at hKR u A⊢;obtain⟨fa,hfa⟩:∃fa,fa=mN f labs.length l l.length:=⟨_,rfl⟩;rw[<-hfa];obtain⟨sq,hsq⟩:∃sq,sq=(k==2):=⟨_,rfl⟩
    have O:(k !=2) = !sq:=by rw[hsq];rfl
    have e0:(λ_=>false)=s7 sq Em F 0:=by funext q;simp[s7]
    have e0':(λ_=>false)=ti sq l.length Em L 0:=by funext q;simp[ti]
    have ef0:fa=λp q=>fa p q||mD sq l.length Em F L 0 p q:=by funext p q;simp[mD]
    ((iterate 3 revert K);refine pK (nU @nG @tw @nS @tA @ai u) ?_;intro K hK)
    refine aN (ι:=Nat) 80 (λi=>[(10,.v (.int .i64 i)),(11,.undef),(12,.undef),(13,.undef),(14,.undef),(15,.undef),(16,.undef)]) (λi=>some ⟨221,8,false,[pf 0 y (su labs l l.length).length n]⟩ ::some ⟨9,1,true,(su labs l l.length).map encS⟩ ::some ⟨121,1,true,bw 2 n n⟩ ::(bB n (λp q=>fa p q||mD sq l.length Em F L i p q) n++[some ⟨25,3,false,[[.v (.int .i64 k),.v (.string s),.aA 3 (l.map aP) l.length]]⟩,some ⟨258,3,false,[[.v (.slice none 0 0),.v (.slice none 0 0),.v (.bool false)]]⟩,none,none,some ⟨258,3,false,[[.aA 1 (dK n (s7 sq Em F i)) n,.aA 1 (dK n (ti sq l.length Em L i)) n,.v (.bool (aS (.mk k s l)))]]⟩,some ⟨258,3,true,KR⟩])) (λi=>l.length-i) (λi=>i<=l.length) 0 zd ?_ ?_
    ·simp only[<-e0, <- e0', <- ef0]
     refine ab ?_ ?_ ?_
     ·simp only[ae0,aem,ai,aeg];simp only[go_sem,iT,true_or,or_true,true_and,and_true,false_or,aeW,decide_eq_true_eq,AV.v.injEq,Value.int.injEq,Value.bool.injEq];omega
     ·exact iC (by simp only[ae0,aem,ai,aeg];omega) (iD (by simp only[bE,aQ,AV.wf,bI,agp]) rfl (by simp only[bE,aQ,AV.wf,bp,agp]) (A _))
     ·simp only[ae0,aem,ai,aeg];omega
    ·intro i hi K hK
     (revert K;revert K;refine pK (nU @nG @tw @nS @tA @ai u) ?_;intro K hK K hK K hK)
     refine cn.part (λh=>?_) (λh=>?_)
     ·have W:i<l.length:=by replace h:=cq h;omega
      have eW:=ae (k:=i) zd;have eKi:=hKR i W
      ((iterate 3 revert K);refine pK (nU @nG @tw @nS @tA @ai u) ?_;iterate 4 intro K hK)
      refine aZ (ι:=Nat) 86 (λj=>[(11,.v (.bool (wk sq Em i j))),(13,.v (.int .i64 j))]) (λj=>i-j) (λj=>j<=i) 0 zd ?_ ?_
      ·have e3:wk sq Em i 0=true:=by simp[wk]
       rw[e3]
       refine ab ?_ ?_ ?_
       ·simp only[ae0,aem,ai,aeg];simp only[go_sem,iT,true_or,or_true,true_and,and_true,false_or,aeW,decide_eq_true_eq,AV.v.injEq,Value.int.injEq,Value.bool.injEq];omega
       ·exact iC (by simp only[ae0,aem,ai,aeg];omega) (iD (by simp only[bE,aQ,AV.wf,bI,agp]) rfl (by simp only[bE,aQ,AV.wf,bp,agp]) (A _))
       ·simp only[ae0,aem,ai,aeg];omega
      ·intro j hj K hK
       ((iterate 5 revert K);refine pK (nU @nG @tw @nS @tA @ai u) ?_;iterate 6 intro K hK)
       refine cn.part (λU=>?_) (λU=>?_)
       ·have hji:j<i:=by replace U:=cq U;omega
        have eV:=ae (k:=j) zd;have eKj:=hKR j zd;have eA:=Lu sq Em i j
        rcases afQ (wk sq Em i j)with ha|ha
        rotate_left 1
        ·rw[ha,afA]at eA
         ((iterate 6 revert K);refine Fa (Me @nG @tw @nS @tA @ai ha eV) ?_)
         refine aw.mk (j+1) zd zd ?_;rw[eA]
         refine ab ?_ ?_ ?_
         ·simp only[ae0,aem,ai,aeg];simp only[go_sem,iT,true_or,or_true,true_and,and_true,false_or,aeW,decide_eq_true_eq,AV.v.injEq,Value.int.injEq,Value.bool.injEq];omega
         ·exact iC (by simp only[ae0,aem,ai,aeg];omega) (iD (by simp only[bE,aQ,AV.wf,bI,agp]) rfl (by simp only[bE,aQ,AV.wf,bp,agp]) (A _))
         ·simp only[ae0,aem,ai,aeg];omega
        ·rw[ha,afi]at eA
         rcases afQ sq with hs|hs
         ·rw[hs]at O;rw[show(!sq||Em j)=Em j by rw[hs];rfl]at eA;simp only[Bool.not_true]at O
          repeat(first|(with_reducible first|refine bA.up ?_|refineλ(K:AK)hK=>?_|refine wE ?_|refine wK ?_|refine wF ?_|refine au zs ?_|refine ay zs ?_|(refine hK _ ?_;clear hK K))|simp only[go_sem,nG,tw,nS,tA,ai,aem,ha,O,u,eKj,eV,Go.undef]|with_reducible refine wA ?_|clear hK K)
          refine aw.mk (j+1) zd zd ?_;rw[eA]
          refine ab ?_ ?_ ?_
          ·simp only[ae0,aem,ai,aeg];simp only[go_sem,iT,true_or,or_true,true_and,and_true,false_or,aeW,decide_eq_true_eq,AV.v.injEq,Value.int.injEq,Value.bool.injEq];omega
          ·exact iC (by simp only[ae0,aem,ai,aeg];omega) (iD (by simp only[bE,aQ,AV.wf,bI,agp]) rfl (by simp only[bE,aQ,AV.wf,bp,agp]) (A _))
          ·simp only[ae0,aem,ai,aeg];omega
         ·rw[hs]at O;rw[show(!sq||Em j)=true by rw[hs];rfl]at eA;simp only[Bool.not_false]at O
          repeat(first|(with_reducible first|refine bA.up ?_|refineλ(K:AK)hK=>?_|refine wE ?_|refine wK ?_|refine wF ?_|refine au zs ?_|refine ay zs ?_|(refine hK _ ?_;clear hK K))|simp only[go_sem,nG,tw,nS,tA,ai,aem,ha,O,u,eKj,eV,Go.undef]|with_reducible refine wA ?_|clear hK K)
          refine aw.mk (j+1) zd zd ?_;rw[eA]
          refine ab ?_ ?_ ?_
          ·simp only[ae0,aem,ai,aeg];simp only[go_sem,iT,true_or,or_true,true_and,and_true,false_or,aeW,decide_eq_true_eq,AV.v.injEq,Value.int.injEq,Value.bool.injEq];omega
          ·exact iC (by simp only[ae0,aem,ai,aeg];omega) (iD (by simp only[bE,aQ,AV.wf,bI,agp]) rfl (by simp only[bE,aQ,AV.wf,bp,agp]) (A _))
          ·simp only[ae0,aem,ai,aeg];omega
       ·have hje:j=i:=by replace U:=cq U;omega
        simp only[hje]
        ((iterate 6 revert K);refine pK (nU @nG @tw @nS @tA @ai eW) ?_;iterate 4 intro K hK)
        refine aZ (ι:=Nat) 106 (λj=>[(12,.v (.bool (wo sq Em i j))),(14,.v (.int .i64 j))]) (λj=>l.length-j) (λj=>i+1<=j∧j<=l.length) (i+1) ⟨zd,zd⟩ ?_ ?_
        ·rw[Oz]
         refine ab ?_ ?_ ?_
         ·simp only[ae0,aem,ai,aeg];simp only[go_sem,iT,true_or,or_true,true_and,and_true,false_or,aeW,decide_eq_true_eq,AV.v.injEq,Value.int.injEq,Value.bool.injEq];omega
         ·exact iC (by simp only[ae0,aem,ai,aeg];omega) (iD (by simp only[bE,aQ,AV.wf,bI,agp]) rfl (by simp only[bE,aQ,AV.wf,bp,agp]) (A _))
         ·simp only[ae0,aem,ai,aeg];omega
        ·rintro j ⟨hj1,hj2⟩ K hK
         ((iterate 5 revert K);refine pK (nU @nG @tw @nS @tA @ai u) ?_;iterate 6 intro K hK)
         refine cn.part (λU=>?_) (λU=>?_)
         ·have hji:j<l.length:=by replace U:=cq U;omega
          have eV:=ae (k:=j) zd;have eKj:=hKR j zd;have eA:=LM sq Em (i:=i) (k:=j) zd
          rcases afQ (wo sq Em i j)with ha|ha
          rotate_left 1
          ·rw[ha,afA]at eA
           ((iterate 6 revert K);refine Fa (Me @nG @tw @nS @tA @ai ha eV) ?_)
           refine aw.mk (j+1) zd zd ?_;rw[eA]
           refine ab ?_ ?_ ?_
           ·simp only[ae0,aem,ai,aeg];simp only[go_sem,iT,true_or,or_true,true_and,and_true,false_or,aeW,decide_eq_true_eq,AV.v.injEq,Value.int.injEq,Value.bool.injEq];omega
           ·exact iC (by simp only[ae0,aem,ai,aeg];omega) (iD (by simp only[bE,aQ,AV.wf,bI,agp]) rfl (by simp only[bE,aQ,AV.wf,bp,agp]) (A _))
           ·simp only[ae0,aem,ai,aeg];omega
          ·rw[ha,afi]at eA
           rcases afQ sq with hs|hs
           ·rw[hs]at O;rw[show(!sq||Em j)=Em j by rw[hs];rfl]at eA;simp only[Bool.not_true]at O
            repeat(first|(with_reducible first|refine bA.up ?_|refineλ(K:AK)hK=>?_|refine wE ?_|refine wK ?_|refine wF ?_|refine au zs ?_|refine ay zs ?_|(refine hK _ ?_;clear hK K))|simp only[go_sem,nG,tw,nS,tA,ai,aem,ha,O,u,eKj,eV,Go.undef]|with_reducible refine wA ?_|clear hK K)
            refine aw.mk (j+1) zd zd ?_;rw[eA]
            refine ab ?_ ?_ ?_
            ·simp only[ae0,aem,ai,aeg];simp only[go_sem,iT,true_or,or_true,true_and,and_true,false_or,aeW,decide_eq_true_eq,AV.v.injEq,Value.int.injEq,Value.bool.injEq];omega
            ·exact iC (by simp only[ae0,aem,ai,aeg];omega) (iD (by simp only[bE,aQ,AV.wf,bI,agp]) rfl (by simp only[bE,aQ,AV.wf,bp,agp]) (A _))
            ·simp only[ae0,aem,ai,aeg];omega
           ·rw[hs]at O;rw[show(!sq||Em j)=true by rw[hs];rfl]at eA;simp only[Bool.not_false]at O
            repeat(first|(with_reducible first|refine bA.up ?_|refineλ(K:AK)hK=>?_|refine wE ?_|refine wK ?_|refine wF ?_|refine au zs ?_|refine ay zs ?_|(refine hK _ ?_;clear hK K))|simp only[go_sem,nG,tw,nS,tA,ai,aem,ha,O,u,eKj,eV,Go.undef]|with_reducible refine wA ?_|clear hK K)
            refine aw.mk (j+1) zd zd ?_;rw[eA]
            refine ab ?_ ?_ ?_
            ·simp only[ae0,aem,ai,aeg];simp only[go_sem,iT,true_or,or_true,true_and,and_true,false_or,aeW,decide_eq_true_eq,AV.v.injEq,Value.int.injEq,Value.bool.injEq];omega
            ·exact iC (by simp only[ae0,aem,ai,aeg];omega) (iD (by simp only[bE,aQ,AV.wf,bI,agp]) rfl (by simp only[bE,aQ,AV.wf,bp,agp]) (A _))
            ·simp only[ae0,aem,ai,aeg];omega
         ·have hje2:j=l.length:=by replace U:=cq U;omega
          simp only[hje2];have C1:=ye n (s7 sq Em F i) (F i) hn;have C2:=ye n (ti sq l.length Em L i) (L i) hn
          have eF1:s7 sq Em F (i+1)=λq=>s7 sq Em F i q||(wk sq Em i i&&F i q):=by funext q;exact L6 sq Em F i q
          have eL1:ti sq l.length Em L (i+1)=λq=>ti sq l.length Em L i q||(wo sq Em i l.length&&L i q):=by funext q;exact Mv sq l.length Em L i q
          have eg0:(λp q=>(fa p q||mD sq l.length Em F L i p q)||pQ sq Em F L i (i+1) p q)=λp q=>fa p q||mD sq l.length Em F L i p q:=by funext p q;rw[P7,Bool.or_false]
          have eX:∀j,i<j->j<=l.length->(j=l.length∨rH sq Em i j=false)->(λp q=>(fa p q||mD sq l.length Em F L i p q)||pQ sq Em F L i j p q)=λp q=>fa p q||mD sq l.length Em F L (i+1) p q:=λj h1 h2 h3=>by
           funext p q
           rw[L9, <- ahg]
           rcases h3 with e|e
           ·rw[e]
           ·rw[TX sq Em F L h1 e h2]
          have hbs:(k==2)=rH sq Em i (i+1):=by rw[OC];exact hsq.symm
          rcases afQ (wk sq Em i i)with hA|hA<;>rcases afQ (wo sq Em i l.length)with hB|hB
          all_goals
           simp only[hA,hB,afi,afA,Bool.or_false]at eF1 eL1
           repeat(first|(with_reducible first|refine bA.up ?_|refineλ(K:AK)hK=>?_|refine wE ?_|refine wK ?_|refine wF ?_|refine au zs ?_|refine ay zs ?_|(refine hK _ ?_;clear hK K))|simp only[go_sem,nG,tw,nS,tA,ai,aem,hA,hB,u,eKi]|with_reducible refine wA ?_|clear hK K)
           (try((first|(refine bQ.one C1 ?_)|(refine bQ.one C2 ?_));repeat(first|(with_reducible first|refine bA.up ?_|refineλ(K:AK)hK=>?_|refine wE ?_|refine wK ?_|refine wF ?_|refine au zs ?_|refine ay zs ?_|(refine hK _ ?_;clear hK K))|simp only[go_sem,nG,tw,nS,tA,ai,aem,hA,hB,u,eKi,eW]|with_reducible refine wA ?_|clear hK K)))
           (try((refine bQ.one C2 ?_);repeat(first|(with_reducible first|refine bA.up ?_|refineλ(K:AK)hK=>?_|refine wE ?_|refine wK ?_|refine wF ?_|refine au zs ?_|refine ay zs ?_|(refine hK _ ?_;clear hK K))|simp only[go_sem,nG,tw,nS,tA,ai,aem,hA,hB,u,eKi,eW]|with_reducible refine wA ?_|clear hK K)))
           refine aN (ι:=Nat) 150 (λj=>[(15,.v (.bool (rH sq Em i j))),(16,.v (.int .i64 j))]) (λj=>some ⟨221,8,false,[pf 0 y (su labs l l.length).length n]⟩ ::some ⟨9,1,true,(su labs l l.length).map encS⟩ ::some ⟨121,1,true,bw 2 n n⟩ ::(bB n (λp q=>(fa p q||mD sq l.length Em F L i p q)||pQ sq Em F L i j p q) n++[some ⟨25,3,false,[[.v (.int .i64 k),.v (.string s),.aA 3 (l.map aP) l.length]]⟩,some ⟨258,3,false,[[.v (.slice none 0 0),.v (.slice none 0 0),.v (.bool false)]]⟩,none,none,some ⟨258,3,false,[[.aA 1 (dK n (s7 sq Em F (i+1))) n,.aA 1 (dK n (ti sq l.length Em L (i+1))) n,.v (.bool (aS (.mk k s l)))]]⟩,some ⟨258,3,true,KR⟩])) (λj=>l.length-j) (λj=>i+1<=j∧j<=l.length) (i+1) ⟨zd,zd⟩ ?_ ?_
           ·rw[eg0,eF1,eL1, <- hbs]
            refine ab ?_ ?_ ?_
            ·simp only[ae0,aem,ai,aeg];simp only[go_sem,iT,true_or,or_true,true_and,and_true,false_or,aeW,decide_eq_true_eq,AV.v.injEq,Value.int.injEq,Value.bool.injEq];omega
            ·exact iC (by simp only[ae0,aem,ai,aeg];omega) (iD (by simp only[bE,aQ,AV.wf,bI,agp]) rfl (by simp only[bE,aQ,AV.wf,bp,agp]) (A _))
            ·simp only[ae0,aem,ai,aeg];omega
           ·rintro j ⟨hj1,hj2⟩ K hK
            rcases afQ (decide ((j:Int)<(l.length:Int)))with U|U
            ·have hji:j<l.length:=by replace U:=cq U;omega
             rcases afQ (rH sq Em i j)with Y|Y
             ·have eV:=ae (k:=j) zd;have eKj:=hKR j hji;have eBt:=Az sq Em (i:=i) (k:=j) zd;rw[Y,afi]at eBt
              have eg:(λp q=>((fa p q||mD sq l.length Em F L i p q)||pQ sq Em F L i j p q)||(L i p&&F j q))=λp q=>(fa p q||mD sq l.length Em F L i p q)||pQ sq Em F L i (j+1) p q:=by
               funext p q;rw[Bc sq Em F L zd,Y,afi,ahg _ (pQ sq Em F L i j p q)]
              have LK:=FI y (su labs l l.length) n hn (λp q=>(fa p q||mD sq l.length Em F L i p q)||pQ sq Em F L i j p q) (L i) (F j);rw[eg]at LK
              repeat((fail_if_success (with_reducible refine ku (i:=34) ?_));first|(with_reducible first|refine bA.up ?_|refineλ(K:AK)hK=>?_|refine wK ?_|refine wF ?_|refine au zs ?_|refine ay zs ?_|(refine hK _ ?_;clear hK K))|simp only[go_sem,nG,tw,nS,tA,ai,aem,U,Y,u,Go.undef]|with_reducible refine wA ?_|clear hK K)
              refine bG [11] [] za zo ?_
              repeat(first|(with_reducible first|refine bA.up ?_|refineλ(K:AK)hK=>?_|refine wK ?_|refine wF ?_|refine au zs ?_|refine ay zs ?_|(refine hK _ ?_;clear hK K))|simp only[go_sem,nG,tw,nS,tA,ai,aem,U,Y,u,eKi,eKj,Go.undef]|with_reducible refine wA ?_|clear hK K)
              refine dP.Zh LK (λm=>by simp only[aQ,AV.wf,bp,agp]) (λm=>rfl) ?_
              repeat(first|(with_reducible first|refine bA.up ?_|refineλ(K:AK)hK=>?_|refine wE ?_|refine wK ?_|refine wF ?_|refine au zs ?_|refine ay zs ?_|(refine hK _ ?_;clear hK K))|simp only[go_sem,nG,tw,nS,tA,ai,aem,u,eKj,eV,Go.undef]|with_reducible refine wA ?_|clear hK K)
              rw[<-eBt];refine aw.mk (j+1) ⟨zd,zd⟩ zd ?_
              refine ab ?_ ?_ ?_
              ·simp only[ae0,aem,ai,aeg];simp only[go_sem,iT,true_or,or_true,true_and,and_true,false_or,aeW,decide_eq_true_eq,AV.v.injEq,Value.int.injEq,Value.bool.injEq];omega
              ·exact iC (by simp only[ae0,aem,ai,aeg];omega) (iD (by simp only[bE,aQ,AV.wf,bI,agp]) rfl (by simp only[bE,aQ,AV.wf,bp,agp]) (A _))
              ·simp only[ae0,aem,ai,aeg];omega
             ·repeat(first|(with_reducible first|refine bA.up ?_|refineλ(K:AK)hK=>?_|refine wE ?_|refine wK ?_|refine wF ?_|refine au zs ?_|refine ay zs ?_|(refine hK _ ?_;clear hK K))|simp only[go_sem,nG,tw,nS,tA,ai,aem,U,Y,u,Go.undef,eW]|with_reducible refine wA ?_|clear hK K)
              rw[eX j zd hj2 (.inr Y)];refine aw.mk (i+1) zd zd ?_
              refine ab ?_ ?_ ?_
              ·simp only[ae0,aem,ai,aeg];simp only[go_sem,iT,true_or,or_true,true_and,and_true,false_or,aeW,decide_eq_true_eq,AV.v.injEq,Value.int.injEq,Value.bool.injEq];omega
              ·exact iC (by simp only[ae0,aem,ai,aeg];omega) (iD (by simp only[bE,aQ,AV.wf,bI,agp]) rfl (by simp only[bE,aQ,AV.wf,bp,agp]) (A _))
              ·simp only[ae0,aem,ai,aeg];omega
            ·repeat(first|(with_reducible first|refine bA.up ?_|refineλ(K:AK)hK=>?_|refine wE ?_|refine wK ?_|refine wF ?_|refine au zs ?_|refine ay zs ?_|(refine hK _ ?_;clear hK K))|simp only[go_sem,nG,tw,nS,tA,ai,aem,U,u,Go.undef,eW]|with_reducible refine wA ?_|clear hK K)
             rw[eX j zd hj2 (.inl (by replace U:=cq U;omega))];refine aw.mk (i+1) zd zd ?_
             refine ab ?_ ?_ ?_
             ·simp only[ae0,aem,ai,aeg];simp only[go_sem,iT,true_or,or_true,true_and,and_true,false_or,aeW,decide_eq_true_eq,AV.v.injEq,Value.int.injEq,Value.bool.injEq];omega
             ·exact iC (by simp only[ae0,aem,ai,aeg];omega) (iD (by simp only[bE,aQ,AV.wf,bI,agp]) rfl (by simp only[bE,aQ,AV.wf,bp,agp]) (A _))
             ·simp only[ae0,aem,ai,aeg];omega
     ·have hie2:i=l.length:=by replace h:=cq h;omega
      simp only[hie2]
      have hFI:s7 sq Em F l.length=mF (.mk k s l) labs.length:=by rw[hsq,hEm,hF];exact TD h1
      have hLI:ti sq l.length Em L l.length=gG (.mk k s l) labs.length:=by rw[hsq,hEm,hL];exact TZ h1
      rw[hFI,hLI];have elb:su labs l l.length=labs++aI (.mk k s l):=TT h1
      have e3:labs.length+(aI (.mk k s l)).length=(su labs l l.length).length:=by rw[elb,aem]
      by_cases h45:k=4∨k=5
      ·have hM:(λp q=>(fa p q||mD sq l.length Em F L l.length p q)||(gG (.mk k s l) labs.length p&&mF (.mk k s l) labs.length q))=λp q=>f p q||mE (.mk k s l) labs.length p q:=by
        rw[hfa,hsq,hEm,hF,hL];exact Pb h45
       have LK:=FI y (su labs l l.length) n hn (λp q=>fa p q||mD sq l.length Em F L l.length p q) (gG (.mk k s l) labs.length) (mF (.mk k s l) labs.length);rw[hM]at LK
       rcases h45 with h4|h5
       ·have c4:(k==4)=true:=by rw[h4];rfl
        ((iterate 3 revert K);refine Fa (nU @nG @tw @nS @tA @ai c4) ?_;intro K hK K hK)
        refine ah.Zh LK (λm=>by simp only[aQ,AV.wf,bp,agp]) (λm=>rfl) ?_
        (revert K;revert K;refine pK (qu @nG @tw @nS @tA @ai) ?_)
        rw[e3, <- elb];exact JY zd (λm=>by simp only[AV.wf,aQ,bp,agp])
       ·have c4:(k==4)=false:=by rw[h5];rfl
        have c5:(k==5)=true:=by rw[h5];rfl
        ((iterate 3 revert K);refine Fa (Me @nG @tw @nS @tA @ai c4 c5) ?_;intro K hK K hK)
        refine ah.Zh LK (λm=>by simp only[aQ,AV.wf,bp,agp]) (λm=>rfl) ?_
        (revert K;revert K;refine pK (qu @nG @tw @nS @tA @ai) ?_)
        rw[e3, <- elb];exact JY zd (λm=>by simp only[AV.wf,aQ,bp,agp])
      ·have c4:(k==4)=false:=beq_false_of_ne (λe=>h45 (.inl e));have c5:(k==5)=false:=beq_false_of_ne (λe=>h45 (.inr e))
       have hM:(λp q=>fa p q||mD sq l.length Em F L l.length p q)=λp q=>f p q||mE (.mk k s l) labs.length p q:=by
        rw[hfa,hsq,hEm,hF,hL];exact TA h1 (λe=>h45 (.inl e)) (λe=>h45 (.inr e))
       rw[hM]
       ((iterate 3 revert K);refine Fa (Me @nG @tw @nS @tA @ai c4 c5) ?_)
       rw[e3, <- elb];exact JY zd (λm=>by simp only[AV.wf,aQ,bp,agp])
theorem WH(x:Ex)(H:aD x=true)(V:(aq x).length<=1000000)(A:∀z,z∈aq x->z.kids.length<=1000000∧z.label.size<=1000000000000000):OfC x:=by
 induction x using Ex.ind with
 |h k s l ih=>
  have q:∀x,x∈l->∀z,z∈aq x->z∈aq (.mk k s l):=λx u z A=>by
   rw[aq,bO];exact List.mem_cons_of_mem _ (List.mem_flatMap.2 ⟨x,u,A⟩)
  by_cases U:k=1
  ·subst U
   have hl:l=[]:=by
    have:=(fO H).1
    cases this with
    |lab s=>rfl
    |many k s l h _ _=>omega
    |one k s x h _=>omega
   subst hl;exact WJ s H A
  ·refine Ui k U s l H V A λx u=>ih x u (oJ H x u) ?_ (λz O=>A z (q x u z O))
   have:=iN (.mk k s l) x (q x u x (by obtain⟨Y,s',W⟩:=x;rw[aq];exact List.mem_cons_self))
   omega
theorem tT(p k N:Nat):∀m,cm (λj=>p+j) (bw k N m)=bw (p+k) N m
 |0=>rfl
 |m+1=>by
  rw[fy,fy,vo,tT p k N m];simp only[bW,AV.bb,nf];rw[show p+(k+1+2*m)=p+k+1+2*m by omega]
theorem By(g:Nat->Nat)(N:Nat)(f:GT):∀m,(bB N f m).map (Option.map (aa.bb g))=bB N f m
 |0=>rfl
 |m+1=>by
  rw[gh,List.map_append,By g N f m];simp only[afZ,agt,ma,aeE,ag7,aa.bb,mq]
theorem F9(x:Ex)(labs:B0)(n:Nat)(f:GT):(dt 0 x labs n f).map (Option.map (aa.bb (λj=>1+j)))=dt 1 x labs n f:=by
 rw[dt,dt,cA,cA];simp only[afZ,By,aeE,aa.bb,tT,vn,cm,pf,bW,AV.bb,bj _ _ (bI 0 x.kids)]
theorem ah.ab2{F:FuncId}{args:C5}{A:AV}{K:AV->AC->Prop}{y:Ex}{labs labs':B0}{n:Nat}{f f':GT}{xb:aa}
  (h:bT prog F (.ptr 0 0 8 0 0::args) (dt 0 y labs n f) A (dt 0 y labs' n f'))(u:∀m,aQ m args=true)(H:∀m,A.wf m=true)
  (k:K A (some xb::dt 1 y labs' n f')):ah prog F (.ptr 1 0 8 0 0::args) (some xb::dt 1 y labs n f) K:=by
 have O:∀k,k<0->(λj=>1+j) k=k:=λk h=>zd
 have q:ah prog F (bW (λj=>[some xb].length+j) (.ptr 0 0 8 0 0::args)) ([some xb]++(dt 0 y labs n f).map (Option.map (aa.bb (λj=>[some xb].length+j)))++[]) K:=by
  refine ah.ab6 (o1:=dt 0 y labs' n f') (pre:=[some xb]) (post:=[]) h (by rw[cC,cC]) ?_ (lj (by rw[cC];omega)) (lj (by rw[cC];omega)) (H _) ?_
  ·rw[aQ,u,afe,AV.wf];exact decide_eq_true (by rw[cC];omega)
  ·simp only[ae0,aeg,Nat.zero_add,List.append_nil,F9,vq O A (H 0),afz,afy];exact k
 simp only[ae0,aeg,Nat.zero_add,List.append_nil,F9,bW,jS O args (u 0),AV.bb,afz,afy,Nat.add_zero]at q;exact q
noncomputable def zm(x:Ex):C5:=[.aA 1 ((aI x).map encS) (aI x).length,.aA 1 (dK (aI x).length (mF x 0)) (aI x).length,.aA 1 (dK (aI x).length (gG x 0)) (aI x).length,.aA 1 (mH (aI x).length (mE x 0)) (aI x).length,.v (.bool (cH x)),.v (.int .i64 x.kind),.v (.string x.label),.aA 3 (x.kids.map aP) x.kids.length]
theorem lk(n:Nat)(x:Ex):aQ n (zm x)=true:=by
 simp only[zm,aQ,AV.wf,bz,bp,gJ,bI,agp]
theorem Uf(x:Ex)(u:(aq x).length<=1000000)(U:∀z,z∈aq x->z.kids.length<=1000000∧z.label.size<=1000000000000000) :
  aj prog 139 [.agg (aP x)] (if aD x then .ck [.vp (zm x),.v (.int .i64 0)]else .ck [.v (.pointer none),.v (.int .i64 2)]):=by
 have R:=qH x u U;have E:=uJ x u U
 cases A:aD x
 ·rw[A]at R;simp only[Bool.false_eq_true,if_false];simp only[aB]at *;refine gE func139 ntmps139 results139 ?_
  (refine ag ?_;intro K hK K hK K hK)
  ((iterate 3 revert K);refine aM R ?_)
  (refine iE.of 40 rfl ?_;simp only[go_sem])
 ·rw[A]at R;simp only[if_true];have hnl:(aI x).length<=24:=u7 A;have M:=Qc x A;have O:=WH x A u U x [] (aI x).length (λ_ _=>false) zd zk;simp only[afy,aeg,Bool.false_or]at O
  have hF:(AV.ck [.vp (zm x),.v (.int .i64 0)]).wf 0=true:=by simp only[AV.wf,aQ,lk,agp]
  have hA:aQ 0 [AV.agg (aP x)]=true:=by simp only[AV.wf,aQ,fp,agp]
  generalize W:AV.ck [.vp (zm x),.v (.int .i64 0)]=rv at hF;simp only[aB]at R E M O hA⊢
  (refine aj.iy func139 rfl zo zo rfl hA hF ?_;simp only[ntmps139,results139,ae0,aeg,Nat.reduceAdd,Nat.reduceSub,List.replicate_succ,List.replicate_zero,afz,afy])
  (refine ag ?_;intro K hK K hK K hK)
  refine ah.one R ?_
  ((iterate 3 revert K);refine dG 3 ?_;intro K hK)
  refine bG [4] [] za zo ?_
  (revert K;refine ag ?_;intro K hK K hK)
  refine bQ.one E ?_
  (revert K;revert K;refine dG 4 ?_;intro K hK K hK)
  refine bn (dS (k:=1) (i:=0) (j:=0) 9 1 zs rfl (show 0<8 by decide) rfl rfl) zo ?_;simp only[ae0,aeg,Nat.reduceAdd,afz,afy,afH,List.set_cons_succ];refine bn (dS (k:=1) (i:=0) (j:=3) 121 1 zs rfl (show 0<8 by decide) rfl rfl) zo ?_;simp only[ae0,aeg,Nat.reduceAdd,afz,afy,afH,List.set_cons_succ]
  (revert K;revert K;refine ag ?_;intro K hK K hK K hK)
  ((iterate 3 revert K);refine aM M ?_;intro K hK)
  generalize hn:(aI x).length=n at *
  refine aN (ι:=Nat) 7 (λm=>[(5,.v (.int .i64 (n-m:Nat)))]) (λm=>some ⟨25,3,false,[[.v (.int .i64 x.kind),.v (.string x.label),.aA 3 (x.kids.map aP) x.kids.length]]⟩ ::some ⟨221,8,false,[[.vec 2 0,.v (.slice none 0 0),.v (.slice none 0 0),.vec 3 m,.v (.bool (cH x)),.v (.int .i64 x.kind),.v (.string x.label),.aA 3 (x.kids.map aP) x.kids.length]]⟩ ::some ⟨9,1,true,[]⟩ ::cA 3 n m (λ_ _=>false)) (λm=>n-m) (λm=>m<=n) 0 zd ?_ ?_
  ·have q:∀j,j<4->decide (j<(cA 3 n 0 (λ_ _=>false)).length+1+1+1)=true:=λj hj=>decide_eq_true (by rw[jh];omega)
   refine ab (bF ?_) (bF ?_) ar
   ·exact⟨q 0 zd,q 1 zd⟩
   ·refine⟨by rw[q 2 zd,q 3 zd];rfl,?_⟩;exact GQ (by rw[jh];omega)
  ·intro m hm K hK;simp only[cA]
   (revert K;revert K;refine dG 7 ?_;intro K hK K hK K hK)
   refine cn.part (λh=>?_) (λh=>?_)
   ·have hlt:m<n:=by replace h:=cq h;omega
    have eW:IntKind.i64.wrap (((n-m:Nat):Int)-1)=((n-(m+1):Nat):Int):=by rw[bS zd zd];omega
    have eL:List.replicate n [AV.v (.bool false)]=dK n (λ_=>false):=lz n
    ((iterate 3 revert K);refine dG 7 ?_;intro K hK K hK K hK)
    refine bG [7,8,9,12] [(4,1009)] za zo ?_;have g1:=λtl j=>SL (ai n (λ_ _=>false) m) tl j;have g0:=λtl=>xL (ai n (λ_ _=>false) m) tl;have s1:=λtl j x=>SN (ai n (λ_ _=>false) m) tl j x;have s0:=λtl x=>xM (ai n (λ_ _=>false) m) tl x
    ((iterate 3 revert K);refine ag ?_;iterate 4 intro K hK)
    refine bQ.one M ?_
    repeat(first|(with_reducible first|refine bA.up ?_|refineλ(K:AK)hK=>?_|refine au zs ?_|refine ay zs ?_|(refine hK _ ?_;clear hK K))|simp only[go_sem,eL,g1,g0,s1,s0,ai,aem]|with_reducible refine wA ?_|(refine aO rfl rfl ?_)|(refine aE rfl ?_)|clear hK K)
    repeat(first|(with_reducible first|refine bA.up ?_|refineλ(K:AK)hK=>?_|refine au zs ?_|refine ay zs ?_|(refine hK _ ?_;clear hK K))|simp only[go_sem,eW,eL,g1,g0,s1,s0,ai,aem]|with_reducible refine wA ?_|(refine aO rfl rfl ?_)|(refine aE rfl ?_)|clear hK K)
    refine aw.mk (m+1) zd zd (ab ?_ ?_ ?_)
    ·have q:∀j,j<4->decide (j<(cA 3 n (m+1) (λ_ _=>false)).length+1+1+1)=true:=λj hj=>decide_eq_true (by rw[jh];omega);simp only[ae0];simp only[go_sem,iT,true_or,or_true,true_and,and_true];exact⟨.inr (q 0 zd),.inr (q 1 zd)⟩
    ·have q:∀j,j<4->decide (j<(cA 3 n (m+1) (λ_ _=>false)).length+1+1+1)=true:=λj hj=>decide_eq_true (by rw[jh];omega)
     have H:(cA 3 n (m+1) (λ_ _=>false)).length+1+1+1=2*(m+1)+4:=by rw[jh]
     have V:bE (2*(m+1)+4) (bw 3 n (m+1))=true:=l6 zd
     have Y:bw 3 n (m+1)=bw 3 n m++[[.vec (2*m+1+1+1+1) n]]:=by rw[fy,show nf 3 m=2*m+1+1+1+1 by unfold nf;omega]
     simp only[ae0];refine⟨.inr ⟨rfl,λob e=>by cases e;simp only[bE,aQ,AV.wf,bI,agp]⟩,.inr ⟨rfl,λob e=>by cases e;simp only[bE,aQ,AV.wf,bI,agp,q 2 zd,q 3 zd]⟩,.inr ⟨rfl,λob e=>by cases e;rfl⟩,?_⟩;rw[H];simp only[cA,gh];exact⟨.inr ⟨by rw[Y],λob e=>by cases e;exact V⟩,oU (λob h=>qh _ _ _ _ _ h) ⟨.inr ⟨rfl,λob e=>by cases e;exact bp _ _ _⟩,.inl rfl,trivial⟩⟩
    ·exact aen _
   ·have e1:m=n:=by replace h:=cq h;omega
    simp only[e1]
    ((iterate 3 revert K);refine dG 8 ?_;intro K hK)
    (revert K;refine ag ?_;intro K hK K hK)
    refine ah.ab2 (y:=x) (labs:=[]) (xb:=⟨25,3,false,[[.v (.int .i64 x.kind),.v (.string x.label),.aA 3 (x.kids.map aP) x.kids.length]]⟩) O (λk=>by simp only[aQ,AV.wf,bI,agp]) (λk=>by simp only[AV.wf,aQ,bp,agp]) ?_;simp only[dt,cA,pf,agt,aeg,Nat.reduceAdd];have g1:=λf tl j=>nG n f tl j;have g0:=λf tl=>tw n f tl;have s1:=λf tl j x=>nS n f tl j x;have s0:=λf tl x=>tA n f tl x
    repeat(first|(with_reducible first|refine bA.up ?_|refineλ(K:AK)hK=>?_|refine au zs ?_|refine ay zs ?_|(refine hK _ ?_;clear hK K))|simp only[go_sem,g1,g0,s1,s0,ai,aem]|with_reducible refine wA ?_|(refine aO rfl rfl ?_)|(refine aE rfl ?_)|clear hK K)
    rw[<-W];simp only[zm,hn];refine bC.ck ⟨bC.ptr (ob:=⟨221,8,false,[[.vec 2 n,.aA 1 (dK n (mF x 0)) n,.aA 1 (dK n (gG x 0)) n,.vec 3 n,.v (.bool (cH x)),.v (.int .i64 x.kind),.v (.string x.label),.aA 3 (x.kids.map aP) x.kids.length]]⟩) rfl rfl rfl (Nat.succ_ne_zero 7) ?_,bC.v _,trivial⟩;refine⟨bC.sj (ob:=⟨9,1,true,(aI x).map encS⟩) rfl rfl (by simp[encS,hn]) (bz 0 _),bC.Ag (bp 0 _ _),bC.Ag (bp 0 _ _),?_,bC.v _,bC.v _,bC.v _,bC.Ag (bI 0 _),trivial⟩;refine bC.U3 (ob:=⟨121,1,true,bw 3 n n⟩) rfl rfl (dC _ _ _) (by rw[xd];exact(dC _ _ _).symm) λi row row' u h2=>?_
    have hi:i<n:=by have:=(List.getElem?_eq_some_iff.1 u).1;rw[dC]at this;exact this
    have e1:(bw 3 n n)[i]?=some [.vec (nf 3 i) n]:=by rw[bw,aeu,List.getElem?_range hi];rfl
    have e2:(mH n (mE x 0))[i]?=some [.aA 1 (dK n (mE x 0 i)) n]:=by rw[mH,aeu,List.getElem?_range hi];rfl
    cases(aec (e1.symm.trans u));cases(aec (e2.symm.trans h2));refine⟨bC.sj (ob:=⟨4,1,true,dK n (mE x 0 i)⟩) ?_ rfl (lf _ _) (bp 0 _ _),trivial⟩;rw[show nf 3 i=2*i+1+1+1+1 by unfold nf;omega,afs,afs,afs,afs,List.getElem?_append_left (by rw[ai];omega)];exact uY hi
theorem Tt{l:B0}{i:Nat}(h:i<l.length):(l.map encS).getD i []=[.v (.string (l.getD i ⟨#[]⟩))]:=by
 rw[aeS,aeS,aeu,List.getElem?_eq_getElem h];rfl
theorem yf(N:Nat)(a b:Nat->Bool)(hn:N<=1000):bT prog 176 [.vec 0 N,.aA 1 (dK N b) N] [some ⟨4,1,true,dK N a⟩] (.vec 1 N) [some ⟨4,1,true,dK N a⟩,some ⟨4,1,true,dK N (λq=>a q||b q)⟩]:=by
 refine gF func176 ntmps176 results176 ?_
 have e0:List.replicate N [AV.v (.bool false)]=dK N (pb a b 0):=by rw[lz];exact oO λq _=>by simp[pb]
 repeat(first|(with_reducible first|refine bA.up ?_|refineλ(K:AK)hK=>?_|(refine hK _ ?_;clear hK K))|simp only[go_sem,e0]|with_reducible refine wA ?_|clear hK K)
 refine aN (ι:=Nat) 10 (λi=>[(6,.v (.int .i64 i))]) (λi=>[some ⟨4,1,true,dK N a⟩,some ⟨4,1,true,dK N (pb a b i)⟩]) (λi=>N-i) (λi=>i<=N) 0 zd ?_ ?_
 ·refine ab (bF ?_) ar ar
  rfl
 ·intro i hi K hK
  (revert K;revert K;refine ag ?_;intro K hK K hK K hK)
  refine cn.part (λh=>?_) (λh=>?_)
  ·have u:i<N:=by replace h:=cq h;omega
   have eW:=ae (k:=i) zd;have eA:=dR (g:=a) u;have eB:=dR (g:=b) u;have eR:=dR (g:=pb a b i) u;have eS:=λv=>tZ (N:=N) (j:=i) (g:=pb a b i) (v:=v);have eU:=AH a b i;cases A:a i
   all_goals
    simp only[A,Bool.false_or,Bool.true_or]at eU
    repeat(first|(with_reducible first|refine bA.up ?_|refineλ(K:AK)hK=>?_|(refine hK _ ?_;clear hK K))|simp only[go_sem,eW,eA,eB,A,eR,eS,eU,Go.undef]|with_reducible refine wA ?_|clear hK K)
    exact aw.mk (i+1) zd zd (by exact ab ar ar ar)
  ·have O:i=N:=by replace h:=cq h;omega
   have eE:dK N (pb a b N)=dK N (λq=>a q||b q):=oO λq H=>by simp[pb,H]
   simp only[O]
   ((iterate 3 revert K);refine ag ?_)
   rw[eE];exact⟨ej,ej,ej⟩
   all_goals first|exact bp _ _ _|exact⟨bp _ _ _,bp _ _ _⟩|skip
noncomputable def zZ(x:Ex)(p:Int)(q:Nat):Bool:=if p=0 then mF x 0 q else if 0<p∧p<=(aI x).length then mE x 0 (p.toNat-1) q else false
noncomputable def GY(x:Ex)(l:M2)(q:Nat):Bool:=l.any (λp=>zZ x p q)
theorem Pc{x:Ex}{l:M2}{i:Nat}(h:i<l.length):GY x (l.take (i+1))=λq=>GY x (l.take i) q||zZ x l[i] q:=by
 funext q
 rw[GY,List.take_succ_eq_append_getElem h,List.any_append,GY];simp
def Mu(g:Nat->Bool)(l:B0)(lab:ByteArray)(j q:Nat):Bool:=if q<j then g q&&((l.getD q ⟨#[]⟩).toList==lab.toList)else g q
theorem Za(g:Nat->Bool)(l:B0)(lab:ByteArray):Mu g l lab 0=g:=by funext q;simp[Mu]
theorem Wv(g:Nat->Bool)(l:B0)(lab:ByteArray)(j:Nat):Mu g l lab j j=g j:=by simp[Mu]
theorem PM(g:Nat->Bool)(l:B0)(lab:ByteArray)(j:Nat):(λq=>if q=j then(g j&&((l.getD j ⟨#[]⟩).toList==lab.toList))else Mu g l lab j q)=Mu g l lab (j+1):=by
 funext q
 rw[Mu,Mu]
 by_cases h:q=j
 ·subst h;simp
 ·rw[if_neg h]
  by_cases u:q<j
  ·rw[if_pos u,if_pos zd]
  ·rw[if_neg u,if_neg zd]
noncomputable def UT(x:Ex)(l:M2)(lab:ByteArray)(q:Nat):Bool:=GY x l q&&(((aI x).getD q ⟨#[]⟩).toList==lab.toList)
def rZ(c:Nat):AC:=List.replicate c none
theorem eb(c:Nat):(rZ c).length=c:=by simp[rZ]
theorem Bf(c:Nat)(tl:AC):rZ (c+1)++tl=rZ c++(none::tl):=by
 rw[rZ,List.replicate_succ',agx];rfl
theorem l7{n:Nat}{a b:AC}:∀(c:Nat),zU n a b->zU n (rZ c++a) (rZ c++b)
 |0,h=>h
 |c+1,h=>⟨.inl rfl,l7 c h⟩
theorem ah.either{c N:Nat}{a b:Nat->Bool}{K:AV->AC->Prop}(hn:N<=1000)(k:K (.vec (c+1) N) (rZ c++[some ⟨4,1,true,dK N a⟩,some ⟨4,1,true,dK N (λq=>a q||b q)⟩])) :
  ah prog 176 [.vec c N,.aA 1 (dK N b) N] (rZ c++[some ⟨4,1,true,dK N a⟩]) K:=by
 have hl:(rZ c++[some (⟨4,1,true,dK N a⟩:aa)]).length=c+1:=by rw[aem,eb];rfl
 refine ah.fr [c] (yf N a b hn) zk ?_ ?_ (by simp only[aQ,AV.wf,bp,agp];rfl) ?_ ?_
 ·simp only[afZ,agt,xL (eb c),aeE,aa.bb,mq];rfl
 ·simp only[bW,AV.bb,mq];rfl
 ·intro k ob u
  match k,u with
  |0,u=>cases u;exact bp _ _ _
  |k+1,u=>simp at u
 ·rw[hl]
  have A:(AV.vec 1 N).bb (sig [c] (c+1))=.vec (c+1) N:=by simp[AV.bb,sig]
  rw[A];simp only[fj,aeE,ag7,aa.bb,mq,afZ,agt,xM (eb c),afH,agx,afz,afy];exact k
theorem dP.either{c N:Nat}{a b:Nat->Bool}{K:AV->AC->Prop}(hn:N<=1000)(k:K (.vec (c+1) N) (rZ c++[some ⟨4,1,true,dK N a⟩,some ⟨4,1,true,dK N (λq=>a q||b q)⟩])) :
  dP prog 176 [.vec c N,.aA 1 (dK N b) N] (rZ c++[some ⟨4,1,true,dK N a⟩]) K:=by
 have hl:(rZ c++[some (⟨4,1,true,dK N a⟩:aa)]).length=c+1:=by rw[aem,eb];rfl
 refine dP.fr [c] (yf N a b hn) zk ?_ ?_ (by simp only[aQ,AV.wf,bp,agp];rfl) ?_ ?_
 ·simp only[afZ,agt,xL (eb c),aeE,aa.bb,mq];rfl
 ·simp only[bW,AV.bb,mq];rfl
 ·intro k ob u
  match k,u with
  |0,u=>cases u;exact bp _ _ _
  |k+1,u=>simp at u
 ·rw[hl]
  have A:(AV.vec 1 N).bb (sig [c] (c+1))=.vec (c+1) N:=by simp[AV.bb,sig]
  rw[A];simp only[fj,aeE,ag7,aa.bb,mq,afZ,agt,xM (eb c),afH,agx,afz,afy];exact k
theorem UE(x:Ex)(l:M2)(lab:ByteArray)(hn:(aI x).length<=1000)(hl:l.length<=1000000):aj prog 140 [.vp (zm x),.aA 1 (l.map encI) l.length,.v (.string lab)]
  (.aA 1 (aT (lg (aI x).length (UT x l lab))) (lg (aI x).length (UT x l lab)).length):=by
 have W:=lk 0 x;have Y:bE 0 (aT (lg (aI x).length (UT x l lab)))=true:=bt _ (λ_=>rfl) _;have hi:bE 0 (l.map encI)=true:=bt _ (λ_=>rfl) _;have S:=UP (aI x).length (UT x l lab) hn;simp only[zm]at W⊢
 (refine aj.enter func140 rfl zo zo rfl (by simp only[go_sem,aQ,AV.wf,agp,afe,afi,W,Y,hi]) (by simp only[go_sem,aQ,AV.wf,bz,agp,afe,afi,W,Y,hi]) ?_;simp only[ntmps140,results140,ae0,aeg,Nat.reduceAdd,Nat.reduceSub,List.replicate_succ,List.replicate_zero,afz,afy])
 have e0:List.replicate (aI x).length [AV.v (.bool false)]=dK (aI x).length (GY x (l.take 0)):=lz _
 repeat(first|(with_reducible first|refine bA.up ?_|refineλ(K:AK)hK=>?_|refine wD ?_|refine au zs ?_|refine ay zs ?_|(refine hK _ ?_;clear hK K))|simp only[go_sem,e0]|with_reducible refine wA ?_|clear hK K)
 refine aN (ι:=Nat×Nat) 9 (λs=>[(7,.vec s.2 (aI x).length),(8,.v (.int .i64 s.1))]) (λs=>rZ s.2++[some ⟨4,1,true,dK (aI x).length (GY x (l.take s.1))⟩]) (λs=>l.length-s.1) (λs=>s.1<=l.length) (0,0) zk ?_ ?_
 ·refine ab (bF ?_) (bF ?_) ar
  ·exact⟨rfl,rfl⟩
  ·exact⟨.inr ⟨rfl,λob e=>by cases e;exact bp _ _ _⟩,trivial⟩
 ·rintro⟨i,c⟩ hi K hK;simp only at hi⊢;have g0:=λtl=>xL (eb c) tl;have s0:=λtl x=>xM (eb c) tl x
  (revert K;revert K;refine bc ?_;intro K hK K hK K hK)
  refine cn.part (λh=>?_) (λh=>?_)
  ·have u:i<l.length:=by replace h:=cq h;omega
   have eG:=getD_map encI l i [] u;have eW:=ae (k:=i) zd;have eF:=Pc (x:=x) u;simp only[encI]at eG;generalize hp:l[i]=p at eG eF
   by_cases O:p=0
   ·have A:zZ x p=mF x 0:=by funext q;rw[zZ,if_pos O]
    simp only[A]at eF;subst O
    ((iterate 3 revert K);refine aG eG ?_;iterate 4 intro K hK)
    refine ah.either hn ?_
    ((iterate 4 revert K);refine aG eW ?_)
    refine aw.mk (i+1,c+1) (by simp only;omega) (by simp only;omega) (ab ?_ ?_ (aen _))
    ·simp only[go_sem,iT,true_or,or_true,true_and,and_true,aem,eb,ae0,aeg];exact .inr (b0)
    ·simp only[eF];rw[Bf];exact l7 c ⟨.inl rfl,.inr ⟨rfl,λob e=>by cases e;exact bp _ _ _⟩,trivial⟩
   ·have V:(p==0)=false:=beq_false_of_ne O
    by_cases h1:0<p∧p<=(aI x).length
    ·obtain⟨j,rfl⟩:∃j:Nat,p=(j:Int)+1:=⟨(p-1).toNat,zd⟩;have H:decide ((0:Int)<(j:Int)+1)=true:=b0;have U:decide ((j:Int)+1<=((aI x).length:Int))=true:=b0
     have eV:IntKind.i64.wrap ((j:Int)+1-1)=(j:Int):=by rw[bS zd zd];omega
     have eM:=vc (N:=(aI x).length) (f:=mE x 0) (i:=j) zd
     have A:zZ x ((j:Int)+1)=mE x 0 j:=by funext q;rw[zZ,if_neg O,if_pos h1,show((j:Int)+1).toNat-1=j by omega]
     simp only[A]at eF
     ((iterate 3 revert K);refine Y2 7 (nU eG V H U eV eM) ?_;iterate 4 intro K hK)
     first|refine wE ?_|refine wD ?_
     ((iterate 4 revert K);refine dj (nU eG V H U eV eM) ?_;intro K hK K hK K hK)
     refine bG [12] [] za zo ?_
     ((iterate 3 revert K);refine dj (nU eG V H U eV eM) ?_;iterate 4 intro K hK)
     refine dP.either hn ?_
     ((iterate 4 revert K);refine aG eW ?_)
     refine aw.mk (i+1,c+1) (by simp only;omega) (by simp only;omega) (ab ?_ ?_ (aen _))
     ·simp only[go_sem,iT,true_or,or_true,true_and,and_true,aem,eb,ae0,aeg];exact .inr (b0)
     ·simp only[eF];rw[Bf];exact l7 c ⟨.inl rfl,.inr ⟨rfl,λob e=>by cases e;exact bp _ _ _⟩,trivial⟩
    ·have A:zZ x p=λ_=>false:=by funext q;rw[zZ,if_neg O,if_neg h1]
     simp only[A,Bool.or_false]at eF
     rcases Int.lt_or_le 0 p with b|b
     ·have H:decide (0<p)=true:=decide_eq_true b;have U:decide (p<=((aI x).length:Int))=false:=bi
      ((iterate 3 revert K);refine cw (qu eG V H U eW) ?_)
      refine aw.mk (i+1,c) (by simp only;omega) (by simp only;omega) (ab ?_ ?_ (aen _))
      ·simp only[go_sem,iT,true_or,or_true,true_and,and_true,aem,eb,ae0,aeg];exact .inr (b0)
      ·simp only[eF];exact l7 c ⟨.inr ⟨rfl,λob e=>by cases e;exact bp _ _ _⟩,trivial⟩
     ·have H:decide (0<p)=false:=bi
      ((iterate 3 revert K);refine cw (pt eG V H eW) ?_)
      refine aw.mk (i+1,c) (by simp only;omega) (by simp only;omega) (ab ?_ ?_ (aen _))
      ·simp only[go_sem,iT,true_or,or_true,true_and,and_true,aem,eb,ae0,aeg];exact .inr (b0)
      ·simp only[eF];exact l7 c ⟨.inr ⟨rfl,λob e=>by cases e;exact bp _ _ _⟩,trivial⟩
  ·have A:l.take i=l:=List.take_of_length_le (by replace h:=cq h;omega);simp only[A]
   ((iterate 3 revert K);refine bc ?_;intro K hK)
   have ek0:=Za (GY x l) (aI x) lab
   refine aN (ι:=Nat) 10 (λj=>[(9,.v (.int .i64 j))]) (λj=>rZ c++[some ⟨4,1,true,dK (aI x).length (Mu (GY x l) (aI x) lab j)⟩]) (λj=>(aI x).length-j) (λj=>j<=(aI x).length) 0 zd ?_ ?_
   ·simp only[ek0]
    refine ab ?_ ?_ (aen _)
    ·simp only[go_sem,iT,true_or,or_true,true_and,and_true,aem,eb,ae0,aeg];exact⟨.inr (b0),.inr rfl⟩
    ·exact l7 c ⟨.inr ⟨rfl,λob e=>by cases e;exact bp _ _ _⟩,trivial⟩
   ·intro j hj K hK
    repeat(first|(with_reducible first|refine bA.up ?_|refineλ(K:AK)hK=>?_|refine wD ?_|refine au zs ?_|refine ay zs ?_|(refine hK _ ?_;clear hK K))|simp only[go_sem,g0,s0]|with_reducible refine wA ?_|clear hK K)
    refine cn.part (λh=>?_) (λh=>?_)
    ·have u:j<(aI x).length:=by replace h:=cq h;omega
     have eW:=ae (k:=j) zd;have eR:=dR (g:=Mu (GY x l) (aI x) lab j) u;rw[Wv]at eR;have eS:=λv=>tZ (N:=(aI x).length) (j:=j) (g:=Mu (GY x l) (aI x) lab j) (v:=v);have eU:=PM (GY x l) (aI x) lab j;have eL:=Tt u;cases hg:GY x l j
     all_goals
      simp only[hg,Bool.false_and,afi]at eU eR
      repeat(first|(with_reducible first|refine bA.up ?_|refineλ(K:AK)hK=>?_|refine wD ?_|refine au zs ?_|refine ay zs ?_|(refine hK _ ?_;clear hK K))|simp only[go_sem,eW,eR,eS,eU,eL,g0,s0,Go.undef]|with_reducible refine wA ?_|clear hK K)
      refine aw.mk (j+1) zd zd (ab ?_ ?_ (aen _))
      ·simp only[go_sem,iT,true_or,or_true,true_and,and_true,aem,eb,ae0,aeg];exact .inr (b0)
      ·exact l7 c ⟨.inr ⟨rfl,λob e=>by cases e;exact bp _ _ _⟩,trivial⟩
    ·have e2:j=(aI x).length:=by replace h:=cq h;omega
     have eE:dK (aI x).length (Mu (GY x l) (aI x) lab (aI x).length)=dK (aI x).length (UT x l lab):=oO λq hq=>by rw[Mu,if_pos hq,UT]
     simp only[e2];simp only[eE]
     ((iterate 3 revert K);refine dG 13 ?_;intro K hK)
     refine bn (fP 7 c rfl (g0 _) rfl (lf _ _)) zo ?_
     (revert K;refine bc ?_;intro K hK K hK)
     (revert K;revert K;refine lG S ?_)
     exact iE.aA Y
def e0:ByteArray:=⟨#[]⟩
def adT(nm:ByteArray)(l r o:zO):C5:=[.aA 8 [[.v (.string ⟨#[97]⟩),.v (.string ⟨#[98]⟩),.v (.bool false),.v (.string ⟨#[120]⟩),.v (.string nm),.v (.int .i64 0),.v (.string e0),.v (.slice none 0 0)]] 1,.aA 13 [Tq ⟨3,l,r⟩] 1,.aA 6 [O4 o] 1,.v (.int .i64 5),.v (.int .i64 1)]
def sA:ByteArray:=⟨#[97]⟩
def sB:ByteArray:=⟨#[98]⟩
def exE:Ex:= .mk 4 e0 [.mk 2 e0 [.mk 1 sA [],.mk 1 sB []]]
def Vv(i:Nat):C5:=[Aa i]
@[go_sem] theorem abL(n k:Nat):bE n (kI Vv k)=true:=ei n _ (λ_=>rfl) k
@[go_sem] theorem Yi(n:Nat):bE n (marksOf Vv)=true:=ei n _ (λ_=>rfl) 12
def mtx(i:Nat):ByteArray:=⟨#[35,1,0,0,47,UInt8.ofNat i,0,0]⟩
def Vz(i:Nat):C5:=[.v (.string (mtx i))]
@[go_sem] theorem abP(n k:Nat):bE n (kI Vz k)=true:=ei n _ (λ_=>rfl) k
@[go_sem] theorem Yl(n:Nat):bE n (marksOf Vz)=true:=ei n _ (λ_=>rfl) 12
mutual
theorem Ra:∀(x:Ex)(d:Nat),sX x d<=300->(aq x).length<=sX x d
 | .mk k s l,d,h=>by
  rw[sX]at h⊢
  split at h
  ·omega
  ·rename_i hd;rw[if_neg hd]
   have:=Gh l (d+1) 1 h
   rw[aq,ae0];omega
theorem Gh:∀(l:IO)(d n:Nat),sL l d n<=300->n+(b4 l).length<=sL l d n
 | [],d,n,h=>by rw[sL,b4];simp
 |x::xs,d,n,h=>by
  rw[sL]at h⊢
  split at h
  ·rename_i hn;rw[if_pos hn];have q:=Gh xs d (n+sX x d) h;have u:=Ra x d zd;rw[b4,aem];omega
  ·omega
end
theorem step_eq{x:Ex}(hr:aD x=true)(l:M2)(lab:ByteArray):az (kr (ba x) (iL (ba x) l) lab)=lg (aI x).length (UT x l lab):=by
 have L:=kj hr;have ok:=L.ok;have hl:=L.labs;refine tU (lF _) (BF _ _) λq=>?_;rw[bq,nr ok,zy]
 have key:∀(p:Nat),((ba x).fs.getD p 0#32).getLsbD q=true↔(if p=0 then mz x 0 q else kO x 0 p q):=λp=>by
  by_cases u:p=0
  ·subst u;rw[if_pos rfl];exact L.fst q
  ·rw[if_neg u];exact L.vU p q u
 have bN:∀(p:Nat),(iL (ba x) l).getLsbD p=true↔(p:Int)∈l∧p<=(aI x).length:=λp=>by
  rw[iL,mP ok,hl];simp
 constructor
 ·rintro⟨p,h1,Y,V⟩;have W:=ok.vU p q Y;rw[hl]at W;obtain⟨A,hpn⟩:=(bN p).1 h1;refine⟨W.1,W.2,?_⟩;rw[UT,Bool.and_eq_true]
  constructor
  ·rw[GY,List.any_eq_true];refine⟨p,A,?_⟩;have k:=(key p).1 Y;rw[zZ]
   by_cases u:p=0
   ·subst u;rw[if_pos rfl]at k;rw[if_pos (show((0:Nat):Int)=0 from rfl),j8,show q-1+1=q by omega];exact k
   ·rw[if_neg u]at k;rw[if_neg zd,if_pos ⟨zd,zd⟩,mO,show q-1+1=q by omega,show(p:Int).toNat-1+1=p by omega];exact k
  ·rw[gz,if_pos ⟨zd,by rw[hl];omega⟩,hl,show((q:Int)-1).toNat=q-1 by omega]at V;rw[beq_iff_eq];exact V
 ·rintro⟨h1,Y,V⟩;rw[UT,Bool.and_eq_true,GY,List.any_eq_true]at V;obtain⟨⟨p,A,u⟩,h4⟩:=V
  have H:(gz (ba x) q).toList=lab.toList:=by
   rw[gz,if_pos ⟨zd,by rw[hl];omega⟩,hl,show((q:Int)-1).toNat=q-1 by omega];rw[beq_iff_eq]at h4;exact h4
  rw[zZ]at u
  by_cases U:p=0
  ·subst U;rw[if_pos rfl,j8,show q-1+1=q by omega]at u;exact⟨0,(bN 0).2 ⟨A,zd⟩,(key 0).2 (by rw[if_pos rfl];exact u),H⟩
  ·rw[if_neg U]at u
   by_cases O:0<p∧p<=(aI x).length
   ·rw[if_pos O,mO,show q-1+1=q by omega]at u;obtain⟨j,rfl⟩:∃j:Nat,p=(j:Int):=⟨p.toNat,zd⟩;rw[show(j:Int).toNat-1+1=j by omega]at u;exact⟨j,(bN j).2 ⟨A,zd⟩,(key j).2 (by rw[if_neg zd];exact u),H⟩
   ·rw[if_neg O]at u;cases u
theorem RE{x:Ex}(O:aD x=true):az (ba x).la=lg (aI x).length (gG x 0):=by
 have L:=kj O;refine tU (lF _) (BF _ _) λq=>?_;rw[bq,zy]
 constructor
 ·intro A;have u:=L.ok.la _ A;rw[L.labs]at u;refine⟨u.1,u.2,?_⟩;rw[ki,show q-1+1=q by omega];exact(L.Bd _).1 A
 ·rintro⟨A,U,H⟩;rw[ki,show q-1+1=q by omega]at H;exact(L.Bd _).2 H
theorem UZ{x:Ex}(q:aD x=true):(ba x).em=cH x:=by
 rw[(kj q).em,cH,q,afi]
section
variable {P:Program}
theorem Hx{n0:Nat}{Q:bg->AS->Prop}{ι:Type}{c:Code}{t:C5}{o:AC}{y:kB}(d1:Nat)(U:TypeId)(q:Nat)(O:t[d1]?=some (.v (.slice none 0 0)))(A:0<q)(d2:Nat)(V:TypeId)(z2:Nat)(H:(t.set d1 (.vec o.length 0))[d2]?=some (.v (.slice none 0 0)))(u:0<z2)
  (m:Nat)(upd:ι->O1)(ob:ι->AC)(mu:ι->Nat)(ok:ι->Prop)(i0:ι)(W:ok i0)
  (Y:Wk n0 ⟨(t.set d1 (.vec o.length 0)).set d2 (.vec (o++[some (aa.mk U q true [])]).length 0),(o++[some (aa.mk U q true [])])++[some (aa.mk V z2 true [])],y⟩ ⟨l4 (cO m t) (upd i0),ob i0,y⟩)
  (h:∀i,ok i->∀K:AS->Prop,(∀s2,aw n0 (λi=>⟨l4 (cO m t) (upd i),ob i,y⟩) mu ok (mu i) s2->K s2)->cD P n0 c ⟨l4 (cO m t) (upd i),ob i,y⟩ (px K Q)):cD P n0 (.loop c) ⟨t,o,y⟩ Q:=
 mL (λi=>AS.mk (l4 (cO m t) (upd i)) (ob i) y) mu ok i0 _ (Gs.step d2 V z2 _ (Gs.step d1 U q (AS.mk t o y) .refl O A) H u) Y W h
end
def dF(l:N2):List C5:=l.map (λb=>[.v (.bool b)])
@[go_sem] theorem jG(l:N2):(dF l).length=l.length:=by simp[dF]
@[go_sem] theorem qg(n:Nat)(l:N2):bE n (dF l)=true:=bt _ (λ_=>rfl) _
attribute [go_sem] gM
def qc(labs:B0):Option qk->AV
 |some st=> .ck [.aA 1 (fq (st.rows.map (iU labs))) st.rows.length,.aA 1 (dF st.ends) st.ends.length,.v (.bool true)]
 |none=> .ck [.v (.slice none 0 0),.v (.slice none 0 0),.v (.bool false)]
theorem NB(labs:B0)(o:Option qk):(qc labs o).wf 0=true:=by
 cases o with
 |none=>rfl
 |some st=>simp only[qc,AV.wf,aQ,oT,qg,Bool.and_self]
def Sc(x:Ex)(labs:B0)(st:qk):AC:=[some ⟨25,3,false,[[.v (.int .i64 x.kind),.v (.string x.label),.aA 3 (x.kids.map aP) x.kids.length]]⟩,none,some ⟨56,1,true,st.all.map sE⟩,some ⟨56,1,true,fq (st.rows.map (iU labs))⟩,some ⟨4,1,true,dF st.ends⟩]
theorem sY(l:Do):aT l=(b5 l).map encI:=by rw[aT,b5,agB];rfl
theorem SB(l:List Do):l.map sE=fq (l.map b5):=by
 rw[fq,agB];refine List.map_congr_left λa _=>?_;rw[sE,Function.comp,sY,b5,agv]
theorem A3{a b:Do}:b5 a=b5 b↔a=b:=by
 constructor
 ·intro h
  have:=congrArg (List.map Int.toNat) h
  simpa [b5,agB,Function.comp_def]using this
 ·rintro rfl;rfl
theorem L7(l:List Do)(s:Do):(l.map b5).findIdx? (λy=>decide (b5 s=y))=l.findIdx? (λy=>s==y):=by
 induction l with
 |nil=>rfl
 |cons a l ih=>
  rw[List.map_cons,List.findIdx?_cons,List.findIdx?_cons,ih]
  by_cases e:s=a
  ·rw[beq_iff_eq.2 e,decide_eq_true (A3.2 e)]
  ·rw[beq_eq_false_iff_ne.2 e,decide_eq_false (λq=>e (A3.1 q))]
def p9N(L:List Do)(s:Do):Int:=match L.findIdx? (λy=>s==y)with
 |some k=>(k:Int)
 |none=> -1
theorem YK(L:List Do)(s:Do):Wd (L.map b5) (b5 s)=p9N L s:=by
 rw[Wd,L7,p9N];cases L.findIdx? (λy=>s==y)<;>rfl
theorem Wc(L:List Do)(s:Do)(A:L.length<=1000000)(hl:∀l∈L,l.length<=1000000)(q:s.length<=1000000):aj prog 141 [.aA 1 (L.map sE) L.length,.aA 1 (aT s) s.length] (.v (.int .i64 (p9N L s))):=by
 have:=On (L.map b5) (b5 s) (by simpa using A) (λl h=>by
  obtain⟨a,u,rfl⟩:=List.mem_map.1 h
  simpa [b5]using hl a u) (by simpa [b5]using q)
 rw[<-SB, <- sY,YK,agv,show(b5 s).length=s.length by simp[b5]]at this;exact this
theorem Rr{x:Ex}(q:aD x=true)(cur:Do)(lab:ByteArray)(hn:(aI x).length<=1000)(hl:cur.length<=1000000):aj prog 140 [.vp (zm x),.aA 1 (aT cur) cur.length,.v (.string lab)] (.aA 1 (aT (bl (ba x) cur lab)) (bl (ba x) cur lab).length):=by
 have:=UE x (b5 cur) lab hn (by simpa [b5]using hl)
 rw[<-step_eq q, <- sY]at this;simpa [b5,bl]using this
def ni(A:M2)(n:Nat):List C5:=(A++List.replicate (n-A.length) (0:Int)).map encI
theorem k9{A:M2}{n:Nat}(h:A.length<=n):(ni A n).length=n:=by rw[ni,agv,aem,List.length_replicate];omega
theorem tY(n:Nat):List.replicate n [AV.v (.int .i64 0)]=ni [] n:=by simp[ni,encI]
theorem xo{A:M2}{n:Nat}(h:A.length=n):ni A n=A.map encI:=by rw[ni,h,ae2];simp
@[go_sem] theorem adb(z:Nat)(A:M2)(n:Nat):bE z (ni A n)=true:=bt _ (λ_=>rfl) _
theorem p9{A:M2}{n k:Nat}(q:A.length=k)(h:k<n):(ni A n).getD k []=[.v (.int .i64 0)]:=by
 subst q;rw[ni,show n-A.length=(n-(A.length+1))+1 by omega,afJ,aeS,agN,aeA (by rw[agv];exact Nat.le_refl _),agv,ae2]
 rfl
theorem tX{A:M2}{n k:Nat}(v:Int)(q:A.length=k)(h:k<n):(ni A n).set k [.v (.int .i64 v)]=ni (A++[v]) n:=by
 subst q;rw[ni,ni,show n-A.length=(n-(A++[v]).length)+1 by rw[aem,agz];omega,afJ];simp[List.set_append,encI]
theorem DJ{A:M2}{n k:Nat}(u:Int)(q:A.length=k):(ni (A++[u]) n).getD k []=[.v (.int .i64 u)]:=by
 subst q;rw[ni,aeS,List.append_assoc,agN,aeA (by rw[agv];exact Nat.le_refl _),agv,ae2]
 rfl
theorem zq{A:M2}{n k:Nat}(u v:Int)(q:A.length=k):(ni (A++[u]) n).set k [.v (.int .i64 v)]=ni (A++[v]) n:=by
 subst q;rw[ni,ni,show(A++[u]).length=(A++[v]).length by simp];simp[List.set_append,encI]
theorem T4{x:Ex}(A:aD x=true){a:Do}(h:Made (bl (ba x)) a):∀p∈a,p<=(aI x).length:=λp u=>by
 have L:=kj A
 rcases h.2 with rfl|⟨cur,l,rfl⟩
 ·simp only[List.mem_singleton]at u;omega
 ·obtain⟨q,_,_,k,_⟩:=(lC L.ok).1 u
  have:=(L.ok.vU _ _ k).2
  rw[L.labs]at this;exact this
def GX(g:Nat->Bool)(p:Nat):Bool:=decide (0<p)&&g (p-1)
theorem O3{N:Nat}{g:Nat->Bool}{p:Nat}(h:p<=N):(lg N g).contains p=GX g p:=by
 rw[af7,List.contains_iff_mem,zy,GX,Bool.and_eq_true,decide_eq_true_eq];exact⟨λq=>⟨zd,q.2.2⟩,λq=>⟨zd,h,q.2⟩⟩
theorem any_eq{N:Nat}{g:Nat->Bool}{l:Do}(h:∀p∈l,p<=N):l.any (λp=>(lg N g).contains p)=l.any (GX g):=by
 rw[af7,List.any_eq_true,List.any_eq_true];exact⟨λ⟨p,u,q⟩=>⟨p,u,by rw[<-O3 (h p u)];exact q⟩,λ⟨p,u,q⟩=>⟨p,u,by rw[O3 (h p u)];exact q⟩⟩
theorem Rg{x:Ex}(hr:aD x=true)(h1:(aq x).length<=1000000)(hz:∀z,z∈aq x->z.kids.length<=1000000∧z.label.size<=1000000000000000)(labs:B0)(hn:labs.Nodup)(hl:labs.length<=1000)(hN:(aI x).length<=1000):aj prog 103 [.agg (aP x),bZ labs] (qc labs (qd x labs)):=by
 have CN:=Uf x h1 hz;rw[hr,if_pos rfl]at CN;have wR:=lk 0 x;have CS:=λcur lab hc=>Rr hr cur lab hN hc;have eS:qd x labs=ri (bl (ba x)) (ba x).em (az (ba x).la) labs:=rfl;rw[eS];have hEm:=UZ hr;generalize(ba x).em=em at *
 have hA:aQ 0 [AV.agg (aP x),bZ labs]=true:=by simp only[bZ,aQ,AV.wf,fp,bz,Bool.and_self]
 have hF:=NB labs (ri (bl (ba x)) em (az (ba x).la) labs);generalize hrv:qc labs (ri (bl (ba x)) em (az (ba x).la) labs)=rv at hF⊢;simp only[aB,bZ]at *
 (refine aj.iy func103 rfl zo zo rfl hA hF ?_;simp only[ntmps103,results103,List.length_cons,List.length_nil,Nat.reduceAdd,Nat.reduceSub,afJ,List.replicate_zero,afz,afy])
 (refine bc ?_;intro K hK K hK)
 refine ah.one CN ?_
 (revert K;revert K;refine dG 3 ?_;intro K hK)
 refine bn (fL (k:=2) (i:=0) (j:=0) zs rfl (Nat.zero_lt_succ _) rfl rfl rfl rfl rfl) zo ?_;simp only[List.set_cons_zero,List.set_cons_succ]
 (revert K;refine bc ?_;intro K hK)
 refine Hx (ι:=qk) 10 56 1 rfl zs 11 4 1 rfl zs 18 (λst=>[(9,.vec 2 st.all.length),(10,.vec 3 st.rows.length),(11,.vec 4 st.rows.length),(12,.v (.int .i64 st.rows.length))]) (Sc x labs) (λst=>257-st.rows.length) (λst=>Hi labs st∧(∀a∈st.all,Made (bl (ba x)) a)∧qc labs (qa (bl (ba x)) em (az (ba x).la) labs (257-st.rows.length) st)=rv) s0
  ⟨UL labs,λa ha=>by simp only[s0,List.mem_singleton]at ha;subst ha;exact⟨zk,.inl rfl⟩,hrv⟩ ?_ ?_
 ·simp only[Sc,s0]
  refine ab (bF ?_) (bF ?_) ar
  ·exact⟨lk _ _,rfl⟩
  ·exact⟨⟨rfl,qN _ _⟩,rfl,rfl⟩
 ·rintro st ⟨U,hmade,q⟩ K hK;have h257:=U.max;have hel:=U.ends;simp only[Sc]
  (revert K;revert K;refine bc ?_;intro K hK K hK K hK)
  refine cn.part (λh=>?_) (λh=>?_)
  ·have W:st.rows.length<st.all.length:=by replace h:=cq h;omega
   rw[show 257-st.rows.length=(256-st.rows.length)+1 by have:=U.le;omega,qa,if_pos W]at q;obtain⟨hcm,hcl⟩:=rY (hmade _ (bK (d:=[]) W));rw[<-cd]at hcm hcl;have h0:[]∉st.all:=λhm=>(hmade _ hm).1 rfl;have eZ:=tY labs.length
   ((iterate 3 revert K);refine aG (q9 h eZ) ?_;iterate 4 intro K hK)
   refine aN (ι:=Nat) 18 (λk=>[(9,.vec 2 (zl (bl (ba x)) (cd st) st.all (labs.take k)).1.length),(14,.v (.int .i64 k)),(15,.undef)]) (λk=>Sc x labs {st with all:=(zl (bl (ba x)) (cd st) st.all (labs.take k)).1}++[some ⟨3,1,true,ni (zl (bl (ba x)) (cd st) st.all (labs.take k)).2 labs.length⟩]) (λk=>labs.length-k) (λk=>k<=labs.length) 0 (Nat.zero_le _) ?_ ?_
   ·simp only[Sc,List.take_zero,zl,List.foldl_nil,afz,afy];refine ab (bF ?_) ar ar;exact⟨lk _ _,rfl⟩
   ·intro k hk K hK;obtain⟨k1,k2,k3,k4,k5,t,k6⟩:=xp (bl (ba x)) (cur:=cd st) U.nd (labs.take k);have hmd:=vt (bl (ba x)) hmade (cur:=cd st) (labs.take k);obtain⟨eR,hne⟩:=KQ (bl (ba x)) (cd st) h0 (labs.take k) (hn.sublist (List.take_sublist _ _))
    have V:(zl (bl (ba x)) (cd st) st.all (labs.take k)).2.length=k:=by rw[eR];simp only[fD,List.length_take];omega
    rw[show(fK (bl (ba x)) (cd st) st.all (labs.take k)).1=(zl (bl (ba x)) (cd st) st.all (labs.take k)).1 by rw[eR]]at k3 k4 k6 hmd hne
    rcases hRi:zl (bl (ba x)) (cd st) st.all (labs.take k)with⟨al,ro⟩
    rw[hRi]at k3 k4 k6 hmd hne V;simp only at k3 k4 k6 hmd hne V
    have hal:al.length<=2000:=by rw[List.length_take]at k4;omega
    simp only[Sc,afz,afy]
    ((iterate 5 revert K);refine bc ?_;iterate 6 intro K hK)
    refine cn.part (λh2=>?_) (λh2=>?_)
    ·have hli:k<labs.length:=by replace h2:=cq h2;omega
     have eW:=ae (k:=k) zd;have eG:=getD_map encS labs k [] hli
     have eC:(al.map sE).getD st.rows.length []=[.aA 1 (aT (cd st)) (cd st).length]:=by
      have hx:al.getD st.rows.length []=cd st:=by rw[k6,dX W];rfl
      rw[aeS,aeu,aes zd];rw[aeS,aes zd]at hx;simp only[Option.map_some,Option.getD_some]at hx⊢;rw[hx];rfl
     have A:=Bw (bl (ba x)) (cd st) st.all (labs.take k) labs[k];rw[<-agD hli,hRi,rIn]at A;simp only at A;have CSk:=CS (cd st) labs[k] zd;obtain⟨ts,tl⟩:=nM (kr (ba x) (iL (ba x) (b5 (cd st))) labs[k]);have tl':(bl (ba x) (cd st) labs[k]).length<=1000:=tl;have AT:=Wc al (bl (ba x) (cd st) labs[k]) zd (λl hl=>by have:=(rY (hmd l hl)).2;omega) zd;rw[p9N]at AT;generalize O:bl (ba x) (cd st) labs[k]=to at *;have eLr:(ni ro labs.length).length=labs.length:=k9 zd;simp only[encS]at eG;have wfA:∀n,bE n (al.map sE)=true:=λn=>bt _ (qN n) _;have gZ:=p9 (n:=labs.length) V hli;have sQ:=λv=>tX (n:=labs.length) v V hli;have gQ:=λu=>DJ (n:=labs.length) u V;have sR:=λu v=>zq (n:=labs.length) u v V;have eL2:∀v:Int,(ni (ro++[v]) labs.length).length=labs.length:=λv=>k9 (by rw[aem,agz];omega)
     repeat(first|(with_reducible first|refine bA.up ?_|refineλ(K:AK)hK=>?_|refine wD ?_|refine au zs ?_|(refine hK _ ?_;clear hK K))|simp only[go_sem,eG,eC,h2]|with_reducible refine wA ?_|clear hK K)
     refine bQ.one CSk ?_
     repeat(first|(with_reducible first|refine bA.up ?_|refineλ(K:AK)hK=>?_|refine wD ?_|refine au zs ?_|(refine hK _ ?_;clear hK K))|simp only[go_sem,eG,eC,h2]|with_reducible refine wA ?_|clear hK K)
     cases hp:al.findIdx? (λy=>to==y)with
     |some j=>
      rw[hp]at AT A;simp only at AT A
      have O:to≠[]:=λe=>by
       obtain⟨q1,q2,_⟩:=List.findIdx?_eq_some_iff_getElem.1 hp;rw[beq_iff_eq]at q2;exact hne (by rw[<-e,q2];exact List.getElem_mem q1)
      have d1:decide ((0:Int)<(to.length:Int))=true:=decide_eq_true (by have:=List.length_pos_iff.2 O;omega);have d2:decide ((j:Int)<0)=false:=bi;refine ah.CA AT 8 rfl (by simp only[go_sem,Nat.reduceLT,Nat.reduceLeDiff,Nat.reduceEqDiff,Nat.lt_add_one,Nat.zero_lt_one,and_self,wfA,agv]) rfl ?_
      ((iterate 8 revert K);refine CB (Me eLr gZ sQ d1 d2 gQ eL2) ?_)
      refine aG eW ?_;refine aw.mk (k+1) zd zd ?_;rw[A];simp only[Sc,afz,afy];refine ab (bF ?_) ar ar;exact lk _ _
     |none=>
      rw[hp]at AT A;simp only at AT A;refine ah.CA AT 8 rfl (by simp only[go_sem,Nat.reduceLT,Nat.reduceLeDiff,Nat.reduceEqDiff,Nat.lt_add_one,Nat.zero_lt_one,and_self,wfA,agv]) rfl ?_
      by_cases O:to=[]
      ·have d1:decide ((0:Int)<(to.length:Int))=false:=decide_eq_false (by rw[O];simp);rw[if_pos O]at A
       ((iterate 8 revert K);refine CB (nU eLr gZ sQ d1 gQ eL2) ?_)
       refine aG eW ?_;refine aw.mk (k+1) zd zd ?_;rw[A];simp only[Sc,afz,afy];refine ab (bF ?_) ar ar;exact lk _ _
      ·have d1:decide ((0:Int)<(to.length:Int))=true:=decide_eq_true (by have:=List.length_pos_iff.2 O;omega);rw[if_neg O]at A
       ((iterate 8 revert K);refine CB (nU eLr gZ sQ d1 gQ eL2) ?_)
       refine yr (mQ eL2 gQ sR) ?_;refine aG eW ?_;refine aw.mk (k+1) zd zd ?_;rw[A];simp only[Sc,afz,afy,agN,List.map_cons,List.map_nil,aem,List.length_cons,List.length_nil]
       refine ab (bF ?_) (bF ?_) ar
       ·exact lk _ _
       ·exact⟨rfl,qN _ _⟩
    ·have hil:k=labs.length:=by replace h2:=cq h2;omega
     rw[hil,List.take_length]at hRi;have eR2:=(KQ (bl (ba x)) (cd st) h0 labs hn).1;rw[hRi]at eR2
     rcases hSi:fK (bl (ba x)) (cd st) st.all labs with⟨al',rs⟩
     rw[hSi]at eR2;simp only[Prod.mk.injEq]at eR2;obtain⟨eal,ero⟩:=eR2
     have H:(cR (bl (ba x)) em (az (ba x).la) labs st).all=al:=by rw[cR,hSi,eal]
     have hrow:(cR (bl (ba x)) em (az (ba x).la) labs st).rows=st.rows++[rs]:=by rw[cR,hSi]
     have hends:(cR (bl (ba x)) em (az (ba x).la) labs st).ends=st.ends++[ua em (az (ba x).la) st]:=by rw[cR]
     rw[H]at q
     ((iterate 6 revert K);refine bc ?_;iterate 4 intro K hK)
     refine cn.part (λh3=>?_) (λh3=>?_)
     ·rw[if_pos (by replace h3:=cq h3;omega)]at q
      ((iterate 4 revert K);refine bc ?_)
      rw[<-q];exact bC.ck ⟨bC.v _,bC.v _,bC.v _,trivial⟩
     ·have h256: ¬ 256<al.length:=by replace h3:=cq h3;omega
      rw[if_neg h256]at q;have hle:=T4 hr (hmade _ (bK (d:=[]) W));rw[<-cd]at hle
      have hE:ua em (az (ba x).la) st=(((st.rows.length:Int)==0&&em)||(cd st).any (GX (gG x 0))):=by
       rw[ua,RE hr,any_eq hle];congr 2;rw[af7,beq_iff_eq,beq_iff_eq];omega
      have eC:(al.map sE).getD st.rows.length []=[.aA 1 (aT (cd st)) (cd st).length]:=by
       have hx:al.getD st.rows.length []=cd st:=by rw[k6,dX W];rfl
       rw[aeS,aeu,aes zd];rw[aeS,aes zd]at hx;simp only[Option.map_some,Option.getD_some]at hx⊢;rw[hx];rfl
      have eV:zm x=[.aA 1 ((aI x).map encS) (aI x).length,.aA 1 (dK (aI x).length (mF x 0)) (aI x).length,.aA 1 (dK (aI x).length (gG x 0)) (aI x).length,.aA 1 (mH (aI x).length (mE x 0)) (aI x).length,.v (.bool em),.v (.int .i64 x.kind),.v (.string x.label),.aA 3 (x.kids.map aP) x.kids.length]:=by rw[zm,hEm]
      simp only[eV];obtain⟨e0,he0⟩:∃e0,e0=((st.rows.length:Int)==0&&em):=⟨_,rfl⟩
      ((iterate 4 revert K);refine dG 19 ?_;iterate 4 intro K hK)
      refine EA ⟨bN 132 [(0,.agg [.v (.int .i64 x.kind),.v (.string x.label),.aA 3 (x.kids.map aP) x.kids.length]),(1,.aA 1 (labs.map encS) labs.length),(2,.ptr 0 0 3 0 0),(4,.v (.slice none 0 0)),(5,.v (.slice none 0 0)),(6,.v (.bool false)),(7,.vp [.aA 1 ((aI x).map encS) (aI x).length,.aA 1 (dK (aI x).length (mF x 0)) (aI x).length,.aA 1 (dK (aI x).length (gG x 0)) (aI x).length,.aA 1 (mH (aI x).length (mE x 0)) (aI x).length,.v (.bool em),.v (.int .i64 x.kind),.v (.string x.label),.aA 3 (x.kids.map aP) x.kids.length]),(8,.v (.int .i64 0)),(9,.vec 2 al.length),(10,.vec 3 st.rows.length),(11,.vec 4 st.rows.length),(12,.v (.int .i64 st.rows.length)),(13,.vec 5 labs.length),(16,.v (.bool e0))],[some ⟨25,3,false,[[.v (.int .i64 x.kind),.v (.string x.label),.aA 3 (x.kids.map aP) x.kids.length]]⟩,none,some ⟨56,1,true,al.map sE⟩,some ⟨56,1,true,fq (st.rows.map (iU labs))⟩,some ⟨4,1,true,dF st.ends⟩,some ⟨3,1,true,ni ro labs.length⟩],.no⟩ zo ?_ ?_
      ·rcases(Bool.eq_false_or_eq_true ((st.rows.length:Int)==0)).symm with hZ|hZ
       ·rw[hZ,Bool.false_and]at he0;subst he0
        ((iterate 4 revert K);refine cw hZ ?_)
        exact ab ar ar ar
       ·rw[hZ,Bool.true_and]at he0;subst he0
        ((iterate 4 revert K);refine cw hZ ?_)
        exact ab ar ar ar
      ·simp only[bN,List.foldl_cons,List.foldl_nil,afJ,List.replicate_zero,go_sem]
       ((iterate 4 revert K);refine bc ?_;iterate 4 intro K hK)
       refine aZ (ι:=Nat) 18 (λj=>[(16,.v (.bool (e0||((cd st).take j).any (GX (gG x 0))))),(17,.v (.int .i64 j))]) (λj=>(cd st).length-j) (λj=>j<=(cd st).length) 0 (Nat.zero_le _) ?_ ?_
       ·refine ab (bF ?_) ar ar
        all_goals first|rfl|simp
       ·intro j hj K hK;have eWj:=ae (k:=j) zd
        repeat(first|(with_reducible first|refine bA.up ?_|refineλ(K:AK)hK=>?_|refine wD ?_|refine au zs ?_|(refine hK _ ?_;clear hK K))|simp only[go_sem,eC]|with_reducible refine wA ?_|clear hK K)
        refine cn.part (λh4=>?_) (λh4=>?_)
        ·have hlj:j<(cd st).length:=by replace h4:=cq h4;omega
         have eN:(aT (cd st)).getD j []=[.v (.int .i64 ((cd st)[j]:Nat))]:=by rw[aT,aeS,aeu,aes hlj];rfl
         have eLn:(aT (cd st)).length=(cd st).length:=by rw[aT,agv]
         have eA:((cd st).take (j+1)).any (GX (gG x 0))=(((cd st).take j).any (GX (gG x 0))||GX (gG x 0) (cd st)[j]):=by rw[agD hlj,List.any_append];simp
         have hpl:=hle _ (List.getElem_mem hlj);generalize hpp:(cd st)[j]=pp at *;generalize hee:(e0||((cd st).take j).any (GX (gG x 0)))=ee at *
         have Y:(e0||((cd st).take (j+1)).any (GX (gG x 0)))=(ee||GX (gG x 0) pp):=by rw[eA, <- Bool.or_assoc,hee]
         cases ee
         ·by_cases hp0:0<pp
          ·have d1:decide ((0:Int)<(pp:Int))=true:=b0
           have eW1:IntKind.i64.wrap ((pp:Int)-1)=((pp-1:Nat):Int):=by rw[bS zd zd];omega
           have eB:=dR (N:=(aI x).length) (g:=gG x 0) (j:=pp-1) zd
           have eQ:GX (gG x 0) pp=gG x 0 (pp-1):=by rw[GX,decide_eq_true hp0,Bool.true_and]
           rw[eQ,Bool.false_or]at Y
           ((iterate 6 revert K);refine ak h4 ?_;iterate 6 intro K hK)
           refine bG [] [] za zo ?_
           repeat(first|(with_reducible first|refine bA.up ?_|refineλ(K:AK)hK=>?_|refine au zs ?_|(refine hK _ ?_;clear hK K))|simp only[go_sem,eC,eN,eLn,d1,eW1,eB,h4,Go.undef]|with_reducible refine wA ?_|clear hK K)
           refine aG eWj ?_;refine aw.mk (j+1) zd zd ?_;rw[Y];exact ab ar ar ar
          ·have d1:decide ((0:Int)<(pp:Int))=false:=bi
           have eQ:GX (gG x 0) pp=false:=by rw[GX,decide_eq_false hp0,Bool.false_and]
           rw[eQ,Bool.false_or]at Y
           ((iterate 6 revert K);refine ak h4 ?_;iterate 6 intro K hK)
           refine bG [] [] za zo ?_
           repeat(first|(with_reducible first|refine bA.up ?_|refineλ(K:AK)hK=>?_|refine au zs ?_|(refine hK _ ?_;clear hK K))|simp only[go_sem,eC,eN,eLn,d1,h4,Go.undef]|with_reducible refine wA ?_|clear hK K)
           refine aG eWj ?_;refine aw.mk (j+1) zd zd ?_;rw[Y];exact ab ar ar ar
         ·rw[Bool.true_or]at Y
          ((iterate 6 revert K);refine ag ?_;iterate 6 intro K hK)
          refine bG [] [] za zo ?_
          ((iterate 6 revert K);refine Pj ?_)
          refine aG eWj ?_;refine aw.mk (j+1) zd zd ?_;rw[Y];exact ab ar ar ar
        ·have hjl:j=(cd st).length:=by replace h4:=cq h4;omega
         have hEn:ua em (az (ba x).la) st=(e0||((cd st).take j).any (GX (gG x 0))):=by rw[hE, <- he0,hjl,List.take_length]
         rw[<-hEn]
         ((iterate 6 revert K);refine dG 24 ?_;iterate 4 intro K hK)
         refine bn (fP 13 5 rfl rfl rfl (by rw[k9 zd])) zo ?_;simp only[List.set_cons_zero,List.set_cons_succ];rw[xo zd];have eWi:=ae (k:=st.rows.length) zd
         have eT:fq (st.rows.map (iU labs))++[[.aA 1 (ro.map encI) labs.length]]=fq ((cR (bl (ba x)) em (az (ba x).la) labs st).rows.map (iU labs)):=by
          rw[hrow,agN,fq,fq,agN,ero];simp[fD]
         have eD:dF st.ends++[[AV.v (.bool (ua em (az (ba x).la) st))]]=dF (cR (bl (ba x)) em (az (ba x).la) labs st).ends:=by
          rw[hends,dF,dF,agN];rfl
         have hlen:(cR (bl (ba x)) em (az (ba x).la) labs st).rows.length=st.rows.length+1:=by rw[hrow,aem,agz]
         generalize ua em (az (ba x).la) st=se at *;obtain⟨nx,hnx⟩:∃nx,nx=cR (bl (ba x)) em (az (ba x).la) labs st:=⟨_,rfl⟩;have hnok:Hi labs nx:=hnx ▸ ub (bl (ba x)) em (az (ba x).la) U W (by rw[H];exact h256);rw[<-hnx]at q hlen H eT eD
         have eEl:(dF st.ends).length=st.rows.length:=by rw[jG,hel]
         repeat(first|(with_reducible first|refine bA.up ?_|refineλ(K:AK)hK=>?_|refine wD ?_|refine au zs ?_|(refine hK _ ?_;clear hK K))|simp only[go_sem,eT,eD,eEl,agv,eWi]|with_reducible refine wA ?_|clear hK K)
         refine aw.mk nx ⟨hnok,by rw[H];exact hmd,by rw[hlen,show 257-(st.rows.length+1)=256-st.rows.length by omega];exact q⟩ (by rw[hlen];have:=U.le;omega) ?_;simp only[Sc,H,hlen];refine ab (bF ?_) ar ar;exact⟨by rw[eV],lk _ _⟩
  ·have hge:st.rows.length=st.all.length:=by have:=U.le;replace h:=cq h;omega
   rw[show 257-st.rows.length=(256-st.rows.length)+1 by omega,qa,if_neg zd]at q
   ((iterate 3 revert K);refine bc ?_)
   rw[<-q];simp only[qc,hel];exact bC.ck ⟨bC.sj (ob:=⟨56,1,true,fq (st.rows.map (iU labs))⟩) rfl rfl (by rw[gM,agv]) (oT _ _),bC.sj (ob:=⟨4,1,true,dF st.ends⟩) rfl rfl (by rw[jG];exact hel) (qg _ _),bC.v _,trivial⟩
end Go.Proofs.YtlhhccmopfamhaaGreatDoor
