/- texts of one claim, one behind the other. -/
import Derived.Test.YtfflpdekojlnmaaGreatDoorYDfaV
import Derived.Test.YtfflpdekojlnmaaGreatDoorYDfaA
import Derived.Test.YtfflpdekojlnmaaGreatDoorYOnceC
import Derived.Test.YtfflpdekojlnmaaGreatDoorYMat
import Derived.Test.YtfflpdekojlnmaaGreatDoorYAbsV
set_option linter.unusedSimpArgs false
set_option linter.unusedVariables false
set_option maxRecDepth 100000
set_option maxHeartbeats 16000000
open List renaming map_cons -> YW, findIdx?_cons -> Zz, mem_cons_of_mem -> XW, map_append -> YT, foldl_append -> YQ, map_nil -> Y5, foldl_cons -> Yw, foldl_nil -> Yx, mem_append -> YP, mem_singleton -> YO, length_map -> XQ, mem_append_left -> YL, getElem?_eq_getElem -> Xb, getElem_mem -> Ym, getElem?_eq_none -> Xg, take_length -> ZA, getD_eq_getElem?_getD -> XR, take_succ_eq_append_getElem -> Y3, length_cons -> WY, cons_append -> Y1, length_nil -> WS, replicate_succ -> YB, replicate_zero -> YC, nil_append -> YR, drop_eq_getElem_cons -> X1, all_eq_true -> X7, getElem_of_mem -> ZC, take_of_length_le -> Y7, getElem?_cons_succ -> Yq, mem_cons -> Yj
open Bool renaming and_self -> YY, and_true -> Yb, true_and -> Yg, eq_iff_iff -> Y8, and_eq_true -> XK, not_eq_true -> XI, and_false -> ZB, false_and -> Yt
open Nat renaming zero_le -> WZ, lt_add_one -> Zi, zero_lt_one -> Zj, lt_or_ge -> WV, zero_add -> XJ, le_refl -> WN
open Option.some renaming inj -> WL
namespace Go.Proofs.YtfflpdekojlnmaaGreatDoor
open Go.RowKit
section
section
variable {α β:Type} [DecidableEq α] [DecidableEq β]
def sx (st:List α×List Nat) (x:α):List α×List Nat:=match st.1.findIdx? (fun y=>decide (x=y)) with
 | some k=>(st.1,st.2++[k])
 | none=>(st.1++[x],st.2++[st.1.length])
theorem Ay {γ:Type} {f:γ->α} {g:γ->β}: ∀(ds:List γ) (c:γ),(∀d∈ds,f c=f d↔g c=g d)->(ds.map f).findIdx? (fun y=>decide (f c=y))=(ds.map g).findIdx? (fun y=>decide (g c=y))
 | [],c,_=>rfl
 | d :: ds,c,h=>by
  rw [YW,YW,Zz,Zz,Ay ds c (fun e he=>h e (XW _ he))]
  have:=h d List.mem_cons_self
  by_cases e:f c=f d
  ·rw [decide_eq_true e,decide_eq_true (this.1 e)]
  ·rw [decide_eq_false e,decide_eq_false (fun k=>e (this.2 k))]
theorem M4 {f:Nat->α} {g:Nat->β} {n:Nat} (h: ∀i j,i<n->j<n->(f i=f j↔g i=g j)): ∀m,m<=n-> ∃ds:List Nat,(∀d∈ds,d<n)∧((List.range m).map f).foldl sx ([],[])=(ds.map f,(((List.range m).map g).foldl sx ([],[])).2)∧(((List.range m).map g).foldl sx ([],[])).1=ds.map g:=fun m=>by
 induction m with
 | zero=>intro _;exact ⟨[],by simp,rfl,rfl⟩
 | succ m ih=>
  intro hm;obtain ⟨ds,h1,h2,h3⟩:=ih (by omega);rw [List.range_succ,YT,YT,YQ,YQ,h2];simp only [YW,Y5,Yw,Yx];rw [sx,sx,h3];simp only;rw [Ay ds m (fun d hd=>h m d (by omega) (h1 d hd))]
  cases q:(ds.map g).findIdx? (fun y=>decide (g m=y)) with
  | some k=>exact ⟨ds,h1,rfl,rfl⟩
  | none=>exact ⟨ds++[m],fun d hd=>by
    rcases YP.1 hd with hd|hd
    ·exact h1 d hd
    ·rw [YO] at hd;omega,by simp,by simp⟩
end
def fh (labs:List ByteArray) (r:aX):List Int:=labs.map (fun l=>match look r l with
 | some t=>(t:Int)
 | none=> -1)
theorem dp (labs:List ByteArray) (r:aX):(fh labs r).length=labs.length:=by rw [fh,XQ]
theorem vJ {labs:List ByteArray} {l:ByteArray} {r r2:aX} (h: ∀m∈labs,look r2 m=look r m):fh (labs++[l]) r2=fh labs r++[match look r2 l with
 | some t=>(t:Int)
 | none=> -1]:=by
 rw [fh,YT,fh]
 congr 1
 exact List.map_congr_left fun m hm=>by rw [h m hm]
section
variable (stp:List Nat->ByteArray->List Nat)
def TJ (cur:List Nat) (st:List (List Nat)×List Int) (lab:ByteArray):List (List Nat)×List Int:=match st.1.findIdx? (fun y=>stp cur lab==y) with
 | some k=>(st.1,st.2++[(k:Int)])
 | none=>if stp cur lab=[] then (st.1,st.2++[-1]) else (st.1++[stp cur lab],st.2++[(st.1.length:Int)])
def vb (cur:List Nat) (all:List (List Nat)) (labs:List ByteArray):List (List Nat)×List Int:=labs.foldl (TJ stp cur) (all,[])
theorem xI (cur:List Nat) (all:List (List Nat)) (labs:List ByteArray) (l:ByteArray):vb stp cur all (labs++[l])=TJ stp cur (vb stp cur all labs) l:=by rw [vb,YQ];rfl
theorem N4 (all:List (List Nat)) (s:List Nat):pos (all.map gx) (gx s)=all.findIdx? (fun y=>s==y):=by
 rw [pos]
 have: ∀l:List (List Nat),(l.map gx).findIdx? (fun x=>cH (gx s) x)=l.findIdx? (fun y=>s==y):=fun l=>by
  induction l with
  | nil=>rfl
  | cons a l ih=>
   rw [YW,Zz,Zz,ih]
   by_cases e:s=a
   ·subst e;rw [jd.2 rfl,beq_self_eq_true]
   ·have:cH (gx s) (gx a)=false:=by
     cases hh:cH (gx s) (gx a)
     ·rfl
     ·exact absurd (AU (jd.1 hh)) e
    rw [this,beq_eq_false_iff_ne.2 e]
 exact this all
theorem Hu (cur:List Nat) (all:List (List Nat)): ∀labs:List ByteArray, ∀l∈(dD stp cur all labs).2.map Prod.fst,l∈labs:=by
 refine fB (by simp [dD]) ?_;intro labs l ih;rw [jE,Ck]
 split
 ·intro m hm;exact YL _ (ih m hm)
 ·split
  all_goals
   intro m hm;rw [YT,YP] at hm
   rcases hm with hm|hm
   ·exact YL _ (ih m hm)
   ·simp only [YW,Y5,YO] at hm;rw [hm];simp
theorem Fk (cur:List Nat) {all:List (List Nat)} (h0:[]∉all): ∀labs:List ByteArray,labs.Nodup->vb stp cur all labs=((dD stp cur all labs).1,fh labs (dD stp cur all labs).2)∧[]∉(dD stp cur all labs).1:=by
 refine fB (fun _=>⟨rfl,h0⟩) ?_;intro labs l ih hn;rw [List.nodup_append] at hn;obtain ⟨e,h1⟩:=ih hn.1;have hl:look (dD stp cur all labs).2 l=none:=c8.2 fun hm=>hn.2.2 l (Hu stp cur all labs l hm) l (by simp) rfl
 have hother: ∀k m,m∈labs->look ((dD stp cur all labs).2++[(l,k)]) m=look (dD stp cur all labs).2 m:=fun k m hm=>by
  have:m≠l:=fun q=>hn.2.2 m hm l (by simp) q
  rw [iE,iF,if_neg this,Option.or_none]
 have hat: ∀k,look ((dD stp cur all labs).2++[(l,k)]) l=some k:=fun k=>by rw [iE,iF,if_pos rfl,hl];rfl
 rw [xI,jE,e,TJ,Ck,N4];simp only
 by_cases hs:stp cur l=[]
 ·have hf:(dD stp cur all labs).1.findIdx? (fun y=>stp cur l==y)=none:=by
   rw [List.findIdx?_eq_none_iff];intro y hy;rw [beq_eq_false_iff_ne,hs];rintro rfl;exact h1 hy
  simp only [hf,if_pos hs];refine ⟨?_,h1⟩;rw [vJ (r:=(dD stp cur all labs).2) (fun m _=>rfl),hl]
 ·simp only [if_neg hs]
  cases hf:(dD stp cur all labs).1.findIdx? (fun y=>stp cur l==y) with
  | some k=>
   refine ⟨?_,h1⟩;simp only;rw [vJ (hother k),hat]
  | none=>
   refine ⟨?_,fun hm=> ?_⟩
   ·simp only;rw [vJ (hother _),hat]
   ·rcases YP.1 hm with hm|hm
    ·exact h1 hm
    ·rw [YO] at hm;exact hs hm.symm
end
def il (labs:List ByteArray) (rows:List aX) (part:List Nat) (i:Nat):List Int:=(part.getD i 0:Int) :: (fh labs (rows.getD i [])).map (fun t=>if t<0 then -1 else (part.getD t.toNat 0:Int))
theorem KU {labs:List ByteArray} {rows:List aX} {part:List Nat} (hR: ∀r∈rows,iR (r.map Prod.fst)) (hL: ∀r∈rows, ∀l∈r.map Prod.fst,l∈labs) (hn:p8 rows) {s t:Nat} (hs:s<rows.length) (ht:t<rows.length) :
  b5 part (part.getD s 0) (rows.getD s [])=b5 part (part.getD t 0) (rows.getD t [])↔il labs rows part s=il labs rows part t:=by
 have val: ∀i l,l∈labs-> ∀(j:Nat),labs[j]? = some l->((fh labs (rows.getD i [])).map (fun t=>if t<0 then -1 else (part.getD t.toNat 0:Int)))[j]? = some (match look (rows.getD i []) l with
   | some t=>(part.getD t 0:Int)
   | none=> -1):=fun i l hl j hj=>by
  rw [fh,List.map_map,List.getElem?_map,hj,Option.map_some,Function.comp]
  cases look (rows.getD i []) l with
  | none=>simp
  | some t=>simp [show ¬((t:Int)<0) by omega]
 constructor
 ·intro h;obtain ⟨h1,h2,h3⟩:=xy (sT _ hn s) (sT _ hn t) h;rw [il,il,h1]
  congr 1
  refine List.ext_getElem? fun j=> ?_
  by_cases hj:j<labs.length
  ·have e:=Xb hj;rw [val s _ (Ym hj) j e,val t _ (Ym hj) j e];obtain ⟨k1,k2⟩:=uI h2 h3 labs[j]
   cases q1:look (rows.getD s []) labs[j] with
   | none=>rw [k1.1 q1]
   | some a=>
    cases q2:look (rows.getD t []) labs[j] with
    | none=>rw [k1.2 q2] at q1;cases q1
    | some b=>simp only [k2 a b q1 q2]
  ·rw [Xg (by rw [XQ,dp];omega),Xg (by rw [XQ,dp];omega)]
 ·intro h;rw [il,il,List.cons.injEq] at h;obtain ⟨h1,h2⟩:=h
  have hv: ∀l∈labs,(match look (rows.getD s []) l with|some t=>(part.getD t 0:Int)|none=> -1)=(match look (rows.getD t []) l with|some t=>(part.getD t 0:Int)|none=> -1):=fun l hl=>by
   obtain ⟨j,hj,e⟩:=List.getElem_of_mem hl;have e:=(Xb hj).trans (congrArg some e)
   have:=congrArg (fun l=>l[j]?) h2
   simp only [val s l hl j e,val t l hl j e,Option.some.injEq] at this;exact this
  have hrs:=hR _ (aW (d:=[]) hs);have hrt:=hR _ (aW (d:=[]) ht)
  have one: ∀ {a b:Nat},a<rows.length->(∀l∈labs,(match look (rows.getD a []) l with|some t=>(part.getD t 0:Int)|none=> -1)=(match look (rows.getD b []) l with|some t=>(part.getD t 0:Int)|none=> -1))-> ∀l,l∈(rows.getD a []).map Prod.fst->l∈(rows.getD b []).map Prod.fst:=fun {a b} ha hv l hl=>by
   have hll:=hL _ (aW (d:=[]) ha) l hl
   have:=hv l hll
   refine Classical.byContradiction fun hn=> ?_;rw [c8.2 hn] at this
   cases q:look (rows.getD a []) l with
   | none=>exact absurd hl (c8.1 q)
   | some t=>
    rw [q] at this;have h5:((part.getD t 0:Nat):Int) = -1:=this;omega
  have he:=k9 hrs hrt fun l=>⟨one hs hv l,one ht (fun l hl=>(hv l hl).symm) l⟩;refine Eq.trans (by rw [Int.ofNat_inj.1 h1]) (KA he ?_)
  have hlen:(rows.getD s []).length=(rows.getD t []).length:=by simpa using congrArg List.length he
  refine List.ext_getElem (by rw [ry,ry,XQ,XQ];exact hlen) fun i k1 k2=> ?_
  have i1:i<(rows.getD s []).length:=by rw [ry,XQ] at k1;exact k1
  have i2:i<(rows.getD t []).length:=by omega
  have hll:(rows.getD s [])[i].1=(rows.getD t [])[i].1:=by
   have:=List.getElem_of_eq he (i:=i) (by simpa using i1)
   simpa using this
  have hm:=hL _ (aW (d:=[]) hs) _ (List.mem_map_of_mem (f:=Prod.fst) (Ym i1))
  have:=hv _ hm
  rw [pW (lX hrs) (show ((rows.getD s [])[i].1,(rows.getD s [])[i].2)∈_ from Ym i1),hll,pW (lX hrt) (show ((rows.getD t [])[i].1,(rows.getD t [])[i].2)∈_ from Ym i2)] at this;simp only [ry,List.getElem_map];exact Int.ofNat_inj.1 this
def fX (labs:List ByteArray) (rows:List aX) (part:List Nat) (n:Nat):List (List Int)×List Nat:=((List.range n).map (il labs rows part)).foldl sx ([],[])
theorem NU (rows:List aX) (part:List Nat) (n:Nat):dB rows part n=((List.range n).map (fun s=>b5 part (part.getD s 0) (rows.getD s []))).foldl sx ([],[]):=by
 induction n with
 | zero=>rfl
 | succ n ih=>
  rw [rq,ih,List.range_succ,YT,YQ];simp only [YW,Y5,Yw,Yx];rw [SL,sx,pos]
  have:(fun x=>cH (b5 part (part.getD n 0) (rows.getD n [])) x)=(fun y=>decide (b5 part (part.getD n 0) (rows.getD n [])=y)):=by
   funext x
   rw [Bool.eq_iff_iff,jd,decide_eq_true_eq]
  rw [this]
  rfl
theorem qh {labs:List ByteArray} {rows:List aX} {part:List Nat} (hR: ∀r∈rows,iR (r.map Prod.fst)) (hL: ∀r∈rows, ∀l∈r.map Prod.fst,l∈labs) (hn:p8 rows) {n:Nat} (h:n<=rows.length):(fX labs rows part n).2=(dB rows part n).2∧(fX labs rows part n).1.length=(dB rows part n).1.length:=by
 obtain ⟨ds,_,h2,h3⟩:=M4 (f:=fun s=>b5 part (part.getD s 0) (rows.getD s [])) (g:=il labs rows part) (n:=rows.length) (fun i j hi hj=>KU hR hL hn hi hj) n h;rw [NU,h2,fX,h3];simp
def ov (labs:List ByteArray) (rows:List aX):Nat->List Nat->Nat->Bool->List Nat
 | 0,part,_,_=>part
 | f+1,part,many,first=>if (fX labs rows part rows.length).1.length=many∧first=false then (fX labs rows part rows.length).2 else ov labs rows f (fX labs rows part rows.length).2 (fX labs rows part rows.length).1.length false
theorem BJ {labs:List ByteArray} {rows:List aX} (hR: ∀r∈rows,iR (r.map Prod.fst)) (hL: ∀r∈rows, ∀l∈r.map Prod.fst,l∈labs) (hn:p8 rows): ∀(f:Nat) {part:List Nat} {many:Nat},Ra rows part many->rows.length+1<=f+many->ov labs rows f part many false=oa rows (f+1) part many
 | 0,part,many,ho,hf=>by
  have:=lM rows ho
  have:=mU rows part
  omega
 | f+1,part,many,ho,hf=>by
  obtain ⟨e1,e2⟩:=qh hR hL hn (part:=part) (Nat.le_refl _);rw [ov,oa,e1,e2]
  by_cases h:fu rows part=many
  ·rw [if_pos h,if_pos ⟨h,rfl⟩];rfl
  ·rw [if_neg h,if_neg (fun q=>h q.1)]
   have:=lM rows ho
   exact BJ hR hL hn f (mV rows part) (by show rows.length+1<=f+fu rows part;omega)
theorem Hi {labs:List ByteArray} {rows:List aX} {ends:List Bool} (hR: ∀r∈rows,iR (r.map Prod.fst)) (hL: ∀r∈rows, ∀l∈r.map Prod.fst,l∈labs) (hn:p8 rows) (h0:0<rows.length):ov labs rows (rows.length+1) (p0 ends) 1 true=bB rows ends:=by
 obtain ⟨e1,e2⟩:=qh hR hL hn (part:=p0 ends) (Nat.le_refl _);have hpos:0<fu rows (p0 ends):=Nat.lt_of_le_of_lt (Nat.zero_le _) (jM rows (part:=p0 ends) h0);rw [ov,if_neg (fun q=>by cases q.2),bB,oa,if_neg (by omega),e1,e2];exact BJ hR hL hn rows.length (mV rows (p0 ends)) (by show rows.length+1<=rows.length+fu rows (p0 ends);omega)
theorem nK {σ:Type} (f:σ->Option Nat->σ) (hf: ∀s,f s none=s): ∀ {labs:List ByteArray} {row:aX} (s:σ),labs.Nodup->(row.map Prod.fst).Sublist labs->labs.foldl (fun s l=>f s (look row l)) s=row.foldl (fun s p=>f s (some p.2)) s
 | [],row,s,_,h=>by
  obtain rfl:row=[]:=by simpa using h
  rfl
 | l :: labs,row,s,hn,h=>by
  rw [List.nodup_cons] at hn;rw [Yw]
  cases row with
  | nil=>
   show labs.foldl _ (f s none)=_;rw [hf];exact nK f hf (row:=[]) s hn.2 (by simp)
  | cons e row=>
   rw [YW] at h
   by_cases hl:l=e.1
   ·subst hl
    have hs:(row.map Prod.fst).Sublist labs:=by simpa using h
    have e1:look (e :: row) e.1=some e.2:=by rw [look,List.find?_cons,jd.2 rfl];rfl
    rw [e1,Yw, <- nK f hf (f s (some e.2)) hn.2 hs]
    have: ∀(ls:List ByteArray),(∀m∈ls,m∈labs)-> ∀s,ls.foldl (fun s l=>f s (look (e :: row) l)) s=ls.foldl (fun s l=>f s (look row l)) s:=fun ls=>by
     induction ls with
     | nil=>intro _ s;rfl
     | cons m ls ih=>
      intro hm s;rw [Yw,Yw];have hme:m≠e.1:=fun q=>hn.1 (q ▸ hm m List.mem_cons_self)
      have:look (e :: row) m=look row m:=by
       have hs:cH m e.1=false:=by
        cases hh:cH m e.1
        ·rfl
        ·exact absurd (jd.1 hh) hme
       rw [look,List.find?_cons,hs];rfl
      rw [this];exact ih (fun x hx=>hm x (XW _ hx)) _
    exact this labs (fun m hm=>hm) _
   ·have hs:((e :: row).map Prod.fst).Sublist labs:=by
     rw [YW]
     cases h with
     | cons _ h=>exact h
     | cons_cons _ h=>exact absurd rfl hl
    have hnl:look (e :: row) l=none:=c8.2 fun q=>hn.1 (hs.subset q);rw [hnl,hf];exact nK f hf s hn.2 hs
def zl (part:List Nat) (order:List Nat) (o:Option Nat):List Nat:=match o with
 | none=>order
 | some t=>match iW part order (part.getD t 0) with
  | some _=>order
  | none=>order++[t]
theorem K1 {part:List Nat}: ∀(row:aX) (order:List Nat),row.foldl (fun o p=>zl part o (some p.2)) order=(dR part order row).1:=by
 refine fB (fun order=>rfl) ?_;intro row e ih order;rw [YQ,ih,kZ];simp only [Yw,Yx];rw [zl,Fi];cases iW part (dR part order row).1 (part.getD e.2 0)<;>rfl
theorem N8 {labs:List ByteArray} {row:aX} (part order:List Nat) (hn:labs.Nodup) (h:(row.map Prod.fst).Sublist labs):labs.foldl (fun o l=>zl part o (look row l)) order=(dR part order row).1:=by
 rw [nK (zl part) (fun _=>rfl) order hn h,K1]
theorem N6 {part order:List Nat} (hn:(order.map (fun s=>part.getD s 0)).Nodup) {k:Nat} (hk:k<order.length) {x:Nat} (h:part.getD (order.getD k 0) 0=x):iW part order x=some k:=by
 rw [iW,List.findIdx?_eq_some_iff_getElem]
 have hk':k<(order.map (fun s=>part.getD s 0)).length:=by simpa using hk
 have e:(order.map (fun s=>part.getD s 0))[k]=x:=by
  rw [List.getElem_map, <- h,List.getD_eq_getElem?_getD (l:=order),Xb hk,Option.getD_some]
 refine ⟨hk',by rw [e,beq_self_eq_true],fun j hj=> ?_⟩;rw [Bool.not_eq_true,beq_eq_false_iff_ne];intro q
 have:=List.pairwise_iff_getElem.1 hn j k (by omega) hk' hj
 exact this (q.symm.trans e.symm)
theorem H5 {labs:List ByteArray} {rows:List aX} {ends:List Bool} {part:List Nat} {st:x7} (ho:FP rows part st) (hw:QW rows ends part st) {k:Nat} (hk:k<st.rows.length):fh labs (st.rows.getD k [])=(fh labs (rows.getD (st.order.getD k 0) [])).map (fun t=>if t<0 then -1 else match iW part st.order (part.getD t.toNat 0) with
  | some j=>(j:Int)
  | none=> -1):=by
 rw [fh,fh,List.map_map];refine List.map_congr_left fun l _=> ?_;obtain ⟨h1,h2⟩:=hw.row k hk l;rw [Function.comp]
 cases q:look (rows.getD (st.order.getD k 0) []) l with
 | none=>rw [h1 q];simp
 | some t=>
  obtain ⟨j,j1,j2,j3⟩:=h2 t q;rw [j1];simp only [show ¬((t:Int)<0) by omega,if_false,Int.toNat_natCast,N6 ho.nd j2 j3]
mutual
def sX:Ex->Nat->Nat
 | .mk _ _ l,deep=>if 60<deep then 301 else sL l (deep+1) 1
def sL:List Ex->Nat->Nat->Nat
 | [],_,n=>n
 | x :: xs,d,n=>if n<=300 then sL xs d (n+sX x d) else n
end
theorem Fo: ∀(l:List Ex) (d n k:Nat) (h:k<l.length),sL (l.take k) d n<=300->sL (l.take (k+1)) d n=sL (l.take k) d n+sX l[k] d
 | [],_,_,_,h,_=>by simp at h
 | x :: xs,d,n,0,_,hn=>by
  simp only [List.take_zero,sL] at hn ⊢;simp [sL,hn]
 | x :: xs,d,n,k+1,h,hn=>by
  simp only [List.take_succ_cons,sL,List.getElem_cons_succ] at hn ⊢
  by_cases hc:n<=300
  ·rw [if_pos hc] at hn ⊢;rw [if_pos hc];exact Fo xs d _ k (by simpa using h) hn
  ·rw [if_neg hc] at hn;omega
theorem Fm: ∀(l:List Ex) (d n k:Nat),300<sL (l.take k) d n->sL l d n=sL (l.take k) d n
 | [],_,_,_,_=>by simp
 | x :: xs,d,n,0,hn=>by
  simp only [List.take_zero,sL] at hn ⊢;rw [if_neg (by omega)]
 | x :: xs,d,n,k+1,hn=>by
  simp only [List.take_succ_cons,sL] at hn ⊢
  by_cases hc:n<=300
  ·rw [if_pos hc] at hn ⊢;rw [if_pos hc];exact Fm xs d _ k hn
  ·rw [if_neg hc,if_neg hc]
mutual
theorem zn: ∀(x:Ex) (d:Nat),d<=61->1<=sX x d∧sX x d<=301+300 * (61 - d)
 | .mk _ _ l,d,h=>by
  rw [sX]
  split
  ·omega
  ·have:=Ee l (d+1) 1 (by omega);omega
theorem Ee: ∀(l:List Ex) (d n:Nat),d<=61->n<=sL l d n∧sL l d n<=max n (601+300 * (61 - d))
 | [],d,n,h=>by rw [sL];omega
 | x :: xs,d,n,h=>by
  rw [sL]
  split
  ·have h1:=zn x d h;have h2:=Ee xs d (n+sX x d) h;omega
  ·omega
end
def Wj (a b:Ex):Nat:=if sX a 0<=300 then sX a 0+sX b 0 else sX a 0
def UB (w:List ByteArray) (a b:Ex):Bool:=decide (300<Wj a b)||decide (30<w.length)
noncomputable def partAt (p q:List ByteArray->Bool) (w:List ByteArray) (n:Nat):Bool:=(List.range n).any (fun k=>p (w.take k)&&q (w.drop k))
section
variable {a b:Ex} (ha:aC a=true) (hb:aC b=true) (na:(aj a).length<=11) (nb:(aj b).length<=11)
include ha hb na nb
omit hb nb
end
end
theorem rk (x:Ex): ∀d:Nat,d<=61->aq Tryz.prog 7 [.agg (aM x), .v (.int .i64 d)] (.v (.int .i64 (sX x d:Nat))):=by
 induction x using Ex.ind with
 | h k s l ih=>
  intro d hd61;simp only [aA,sX,Ex.kind,Ex.label,Ex.kids]
  by_cases hdd:60<d
  ·rw [if_pos hdd];have hd0:decide (60<(d:Int))=true:=decide_eq_true (by omega);refine gE Tryz.func7 Tryz.ntmps7 Tryz.results7 ?_;refine aP hd0 ?_
   rfl
  ·rw [if_neg hdd];have hd0:decide (60<(d:Int))=false:=decide_eq_false (by omega);have eD:=ak (k:=d) (by omega);refine gE Tryz.func7 Tryz.ntmps7 Tryz.results7 ?_
   (refine aP hd0 ?_;intro K hK)
   refine bf (ι:=Nat) 9 (fun i=>[(5, .v (.int .i64 (sL (l.take i) (d+1) 1:Nat))),(6, .v (.int .i64 i))]) (fun i=>l.length - i) (fun i=>i<=l.length∧i+1<=sL (l.take i) (d+1) 1) 0 ⟨WZ _,Nat.le_refl _⟩ ?_ ?_
   ·refine bl ?_ ai;exact ⟨rfl,rfl⟩
   rintro i ⟨hi,hin⟩ K hK;have hr:=Ee (l.take i) (d+1) 1 (by omega)
   (revert K;revert K;refine au ?_;iterate 5 intro K hK)
   refine bD.part (fun h=> ?_) (fun h=> ?_)
   ·have hlt:i<l.length:=by replace h:=bG h;omega
    by_cases hb2:sL (l.take i) (d+1) 1<=300
    ·have eW:=ak (k:=i) (by omega);have eG:=getD_map aM l i [] hlt;have HX:=ih l[i] (List.getElem_mem hlt) (d+1) (by omega);have eT:=Fo l (d+1) 1 i hlt hb2;have hr2:=zn l[i] (d+1) (by omega);have hd:decide (((sL (l.take i) (d+1) 1:Nat):Int)<=300)=true:=decide_eq_true (by omega)
     have eS:IntKind.i64.wrap (((sL (l.take i) (d+1) 1:Nat):Int)+((sX l[i] (d+1):Nat):Int))=((sL (l.take (i+1)) (d+1) 1:Nat):Int):=by rw [bH (by omega) (by omega),eT];omega
     simp only [aA] at HX eG
     repeat (first|(with_reducible first|refine aw.up ?_|refine fun (K:AK) hK=> ?_|(refine hK _ ?_;clear hK K))|simp only [go_sem,hd,h,eG,aA,eD]|with_reducible refine wA ?_|clear hK K)
     refine aa.one HX ?_
     ((iterate 4 revert K);refine rZ eS eW ?_)
     exact az.mk (i+1) ⟨by omega,by omega⟩ (by omega) (by exact aR ai)
    ·have eT:=Fm l (d+1) 1 i (by omega);have hd:decide (((sL (l.take i) (d+1) 1:Nat):Int)<=300)=false:=decide_eq_false (by omega)
     ((iterate 5 revert K);refine rZ hd h ?_)
     rw [eT]
   ·have e1:l.take i=l:=by rw [show i=l.length by replace h:=bG h;omega,ZA]
    ((iterate 5 revert K);exact JJ e1 h)
theorem dn (k:Int) (rows:List (List AV)) (n:Nat) (hw:bj 0 rows=true):aq Tryz.prog 24 [.v (.int .i64 k), .aB 3 rows n] (.agg [.v (.int .i64 k), .v (.string ⟨#[]⟩), .aB 3 rows n]):=by
 (refine aq.enter Tryz.func24 rfl (by kernel_rfl) (by kernel_rfl) rfl (by simp only [go_sem,aN,AV.wf,YY,Bool.and_true,Bool.true_and,hw]) (by simp only [go_sem,aN,AV.wf,aO,YY,Bool.and_true,Bool.true_and,hw]) ?_;simp only [Tryz.ntmps24,Tryz.results24,List.length_cons,List.length_nil,Nat.reduceAdd,Nat.reduceSub,List.replicate_succ,List.replicate_zero,List.cons_append,List.nil_append])
 repeat' (first|(with_reducible first|refine aw.up ?_|refine fun (K:AK) hK=> ?_|(refine hK _ ?_;clear hK K))|simp only [go_sem]|clear hK K|(with_reducible refine aa.one (by assumption) ?_)|(with_reducible refine aE.one (by assumption) ?_)|(refine bD.part (fun hb=> ?_) (fun hb=> ?_)<;>simp only [hb,go_sem])|(refine bD.part (fun hb=> ?_) (fun hb=> ?_))|(with_reducible refine mw.mk ?_ ?_))
 refine gd.of 40 rfl ?_;simp only [go_sem,hw]
theorem cU (s:ByteArray):aq Tryz.prog 25 [.v (.string s)] (.agg [.v (.int .i64 1), .v (.string s), .v (.slice none 0 0)]):=by
 refine gE Tryz.func25 Tryz.ntmps25 Tryz.results25 ?_
 repeat' (first|(with_reducible first|refine aw.up ?_|refine fun (K:AK) hK=> ?_|(refine hK _ ?_;clear hK K))|simp only [go_sem]|clear hK K|(with_reducible refine aa.one (by assumption) ?_)|(with_reducible refine aE.one (by assumption) ?_)|(refine bD.part (fun hb=> ?_) (fun hb=> ?_)<;>simp only [hb,go_sem])|(refine bD.part (fun hb=> ?_) (fun hb=> ?_))|(with_reducible refine mw.mk ?_ ?_))
 (refine gd.of 40 rfl ?_;simp only [go_sem])
theorem pB {x:Ex} {A:oe} (h:gU x (bR x) = .inl A):aC x=true∧A.labs=bR x∧OK x A∧FN A:=by
 have hr:aC x=true:=by
  cases hr:aC x
  ·rw [gU,hr] at h;simp at h
  ·rfl
 have L:=F7 hr (jl x) (yQ hr) (fun l hl=>kV.2 hl) h
 have e:A.labs=bR x:=by
  rw [gU,if_pos hr] at h
  split at h
  ·split at h
   ·cases h
   ·simp only [Sum.inl.injEq] at h;rw [<-h];rfl
  ·cases h
 exact ⟨hr,e,L,{ L.toAOk with nd:=by rw [e];exact jl x,sz:=by rw [e];exact E9 hr,PZ:=by rw [e];exact yP hr }⟩
theorem mg {s:ByteArray} (h:s.size<=100):ph s:=by unfold ph;omega
mutual
def yA:Ex->List AV
 | .mk k s l=>[.v (.int .i64 k), .v (.string s),if l.isEmpty then .v (.slice none 0 0) else .aB 3 (Ap l) l.length]
def Ap:List Ex->List (List AV)
 | []=>[]
 | x :: xs=>yA x :: Ap xs
end
theorem Aq: ∀l:List Ex,Ap l=l.map yA
 | []=>rfl
 | x :: xs=>by rw [Ap,Aq xs];rfl
theorem yB (x:Ex):mi (yA x) (aM x):=by
 induction x using Ex.ind with
 | h k s l ih=>
  rw [yA,aA];refine .cons (.refl _) (.cons (.refl _) (.cons ?_ .nil))
  cases l with
  | nil=>exact .nil 3
  | cons y l=>
   have:=Le.rows (z:=3) (f:=yA) (g:=aM) (xs:=y :: l) (more:=[]) ih
   rw [List.append_nil] at this;rw [Aq];exact this
theorem qM:aq Tryz.prog 8 [] (.v (.bool true)):=by
 have oA:LU.ok:=by simp only [LU,oq,Ex.ok,jb,and_true];exact ⟨mg (by decide),mg (by decide),mg (by decide),mg (by decide)⟩
 have oB:LV.ok:=by simp only [LV,oq,Ex.ok,jb,and_true];exact ⟨mg (by decide),mg (by decide),mg (by decide),mg (by decide),mg (by decide),mg (by decide)⟩
 have oC:LW.ok:=by simp only [LW,oq,Ex.ok,jb,and_true];exact ⟨mg (by decide),mg (by decide)⟩
 have NA:=(oK LU oA).le (args':=[.agg (yA LU)]) rfl (.cons (yB LU).agg .nil);have NB:=(oK LV oB).le (args':=[.agg (yA LV)]) rfl (.cons (yB LV).agg .nil);have NC:=(oK LW oC).le (args':=[.agg (yA LW)]) rfl (.cons (yB LW).agg .nil);rw [uR,R4] at NA;rw [uR,R5] at NB;rw [uR,Uv] at NC;have lA:=(pB R4).2.2.2;have lB:=(pB R5).2.2.2;have C1:aq Tryz.prog 28 [.vp (b4 Ch)] (.v (.int .i64 2)):=mH Ch;have C2:=pL Ch rfl 0;rw [show du Ch 0=true by kernel_rfl] at C2;have C3:=pL Ch rfl 1;rw [show du Ch 1=false by kernel_rfl] at C3;have S1:=pK Ch 0 ta;rw [show ck Ch 0 ta=some 1 by kernel_rfl] at S1;have S2:=pK Ch 1 tb;rw [show ck Ch 1 tb=some 0 by kernel_rfl] at S2;have S3:=pK Ch 0 tb;rw [show ck Ch 0 tb=none by kernel_rfl] at S3;have E1:=yz lB lB;rw [show nc PS PS=true by kernel_rfl] at E1;have E2:=yz lA lB;rw [show nc Ch PS=false by kernel_rfl] at E2;have wA:=gK 0 Ch;have wB:=gK 0 PS;have L1:=cU ta;have L2:=cU tb;have O1:=dn 2 [[.v (.int .i64 1), .v (.string ta), .v (.slice none 0 0)],[.v (.int .i64 1), .v (.string tb), .v (.slice none 0 0)]] 2 rfl;have O2:=dn 4 [[.v (.int .i64 2), .v (.string ⟨#[]⟩), .aB 3 [[.v (.int .i64 1), .v (.string ta), .v (.slice none 0 0)],[.v (.int .i64 1), .v (.string tb), .v (.slice none 0 0)]] 2]] 1 rfl;have O3:=dn 4 [[.v (.int .i64 1), .v (.string ta), .v (.slice none 0 0)]] 1 rfl;have O4:=dn 2 [[.v (.int .i64 1), .v (.string ta), .v (.slice none 0 0)],[.v (.int .i64 4), .v (.string ⟨#[]⟩), .aB 3 [[.v (.int .i64 1), .v (.string ta), .v (.slice none 0 0)]] 1]] 2 rfl;have O5:=dn 3 [[.v (.int .i64 1), .v (.string ta), .v (.slice none 0 0)],[.v (.int .i64 2), .v (.string ⟨#[]⟩), .aB 3 [[.v (.int .i64 1), .v (.string ta), .v (.slice none 0 0)],[.v (.int .i64 4), .v (.string ⟨#[]⟩), .aB 3 [[.v (.int .i64 1), .v (.string ta), .v (.slice none 0 0)]] 1]] 2]] 2 rfl;have O6:=dn 5 [[.v (.int .i64 1), .v (.string ta), .v (.slice none 0 0)]] 1 rfl;have c0:((0:Nat):Int)=0:=rfl;have c1:((1:Nat):Int)=1:=rfl;simp only [stepT,Option.getD_some,Option.isSome_some,Option.getD_none,Option.isSome_none,c0,c1] at S1 S2 S3;simp only [LU,LV,LW,oq,yA,Ap,List.isEmpty_nil,List.isEmpty_cons,List.length_cons,List.length_nil,Nat.reduceAdd,if_true,Bool.false_eq_true,if_false,ta,tb] at NA NB NC L1 L2 O1 O2 O3 O4 O5 O6 S1 S2 S3;generalize b4 Ch=vA at *;generalize b4 PS=vB at *;refine gE Tryz.func8 Tryz.ntmps8 Tryz.results8 ?_
 (refine au ?_;intro K hK K hK)
 refine aa.one L1 ?_
 (revert K;revert K;refine au ?_;intro K hK K hK)
 refine aa.one L2 ?_
 (revert K;revert K;refine au ?_;intro K hK K hK)
 refine aa.q7 O1 rfl (by simp only [go_sem,Nat.reduceLT,Nat.reduceLeDiff,Nat.reduceEqDiff,Zi,Zj,and_self]) ?_
 (revert K;revert K;refine au ?_;intro K hK K hK)
 refine aa.q7 O2 rfl (by simp only [go_sem,Nat.reduceLT,Nat.reduceLeDiff,Nat.reduceEqDiff,Zi,Zj,and_self]) ?_
 (revert K;revert K;refine au ?_;intro K hK K hK)
 refine aa.one NA ?_
 (revert K;revert K;refine gW ?_;intro K hK K hK K hK)
 refine aa.one C1 ?_
 ((iterate 3 revert K);refine gW ?_;intro K hK K hK K hK)
 refine aa.one C2 ?_
 ((iterate 3 revert K);refine gW ?_;intro K hK K hK K hK)
 refine aa.one C3 ?_
 ((iterate 3 revert K);refine gW ?_;intro K hK K hK)
 refine aa.one S1 ?_
 (revert K;revert K;refine gW ?_;intro K hK K hK)
 refine aa.one S2 ?_
 (revert K;revert K;refine gW ?_;intro K hK K hK)
 refine aa.one S3 ?_
 (revert K;revert K;refine gW ?_;intro K hK K hK)
 refine aa.one L1 ?_
 (revert K;revert K;refine gW ?_;intro K hK K hK)
 refine aa.one L1 ?_
 (revert K;revert K;refine gW ?_;intro K hK K hK)
 refine aa.one L1 ?_
 (revert K;revert K;refine gW ?_;intro K hK K hK)
 refine aa.q7 O3 rfl (by simp only [go_sem,Nat.reduceLT,Nat.reduceLeDiff,Nat.reduceEqDiff,Zi,Zj,and_self]) ?_
 (revert K;revert K;refine gW ?_;intro K hK K hK)
 refine aa.q7 O4 rfl (by simp only [go_sem,Nat.reduceLT,Nat.reduceLeDiff,Nat.reduceEqDiff,Zi,Zj,and_self]) ?_
 (revert K;revert K;refine gW ?_;intro K hK K hK)
 refine aa.q7 O5 rfl (by simp only [go_sem,Nat.reduceLT,Nat.reduceLeDiff,Nat.reduceEqDiff,Zi,Zj,and_self]) ?_
 (revert K;revert K;refine gW ?_;intro K hK K hK)
 refine aa.one NB ?_
 (revert K;revert K;refine gW ?_;intro K hK K hK)
 refine aa.one L1 ?_
 (revert K;revert K;refine gW ?_;intro K hK K hK)
 refine aa.q7 O6 rfl (by simp only [go_sem,Nat.reduceLT,Nat.reduceLeDiff,Nat.reduceEqDiff,Zi,Zj,and_self]) ?_
 (revert K;revert K;refine gW ?_;intro K hK K hK)
 refine aa.one NC ?_
 (revert K;revert K;refine gW ?_;intro K hK K hK)
 refine aa.one E1 ?_
 (revert K;revert K;refine gW ?_;intro K hK K hK)
 refine aa.one E2 ?_
 (revert K;revert K;exact Sj)
theorem JM (l:List Int) {i:Nat} (h:i<l.length):(l.map encI).getD i []=[.v (.int .i64 l[i])]:=by
 rw [XR,List.getElem?_map,Xb h];rfl
@[go_sem] theorem LH (n:Nat) (l:List Int):bj n (l.map encI)=true:=bw _ (fun _=>rfl) _
theorem K6 (a b:List Int) (ha:a.length<=1000000) (hb:b.length<=1000000):aq Tryz.prog 105 [.aB 1 (a.map encI) a.length, .aB 1 (b.map encI) b.length] (.v (.bool (decide (a=b)))):=by
 generalize hrv:decide (a=b)=rv;refine gE Tryz.func105 Tryz.ntmps105 Tryz.results105 ?_
 (refine bU ?_;intro K hK)
 refine bf (ι:=Nat) 6 (fun i=>[(5, .v (.int .i64 i))]) (fun i=>a.length - i) (fun i=>i<=a.length∧i<=b.length∧a.take i=b.take i) 0 ⟨WZ _,WZ _,by simp⟩ ?_ ?_
 ·refine bl ?_ ai
  all_goals rfl
 ·rintro i ⟨h1,h2,h3⟩ K hK;have eW:=ak (k:=i) (by omega)
  have out:(i<a.length-> ¬i<b.length)->((a.length:Int)==(b.length:Int))=rv:=fun hh=>by
   rw [<-hrv,Bool.eq_iff_iff,beq_iff_eq,decide_eq_true_eq];refine ⟨fun e=> ?_,fun e=>by rw [e]⟩
   have e':a.length=b.length:=by omega
   have hi:i=a.length:=by
    rcases Nat.lt_or_ge i a.length with q|q
    ·exact absurd (by omega) (hh q)
    ·omega
   rw [hi,ZA,e',ZA] at h3;exact h3
  by_cases d1:i<a.length
  ·have e1:decide ((i:Int)<(a.length:Int))=true:=decide_eq_true (by omega)
   by_cases d2:i<b.length
   ·have e2:decide ((i:Int)<(b.length:Int))=true:=decide_eq_true (by omega);have gA:=JM a d1;have gB:=JM b d2
    repeat (first|(with_reducible first|refine aw.up ?_|refine fun (K:AK) hK=> ?_|refine wD ?_|(refine hK _ ?_;clear hK K))|simp only [go_sem,e1,e2,gA,gB,Go.undef]|with_reducible refine wA ?_|clear hK K)
    refine bD.part (fun g=> ?_) (fun g=> ?_)
    ·have hne:a[i]≠b[i]:=by replace g:=bG g;exact g
     have:rv=false:=by
      rw [<-hrv,decide_eq_false_iff_not];intro e;subst e;exact hne rfl
     ((iterate 3 revert K);refine bU ?_)
     rw [this]
    ·have he:a[i]=b[i]:=by replace g:=bG g;exact g
     ((iterate 3 revert K);refine w8 eW ?_)
     exact az.mk (i+1) ⟨d1,d2,by rw [Y3 d1,Y3 d2,h3,he]⟩ (by omega) (by exact aR ai)
   ·have e2:decide ((i:Int)<(b.length:Int))=false:=decide_eq_false (by omega);have ho:=out fun _=>d2
    (revert K;revert K;refine Jz e1 e2 ?_)
    rw [ho]
  ·have e1:decide ((i:Int)<(a.length:Int))=false:=decide_eq_false (by omega);have ho:=out fun q=>absurd q d1
   (revert K;revert K;refine P3 e1 ?_)
   rw [ho]
def de (L:List (List Int)):List (List AV):=L.map (fun l=>[AV.aB 1 (l.map encI) l.length])
theorem dq (L:List (List Int)):(de L).length=L.length:=by simp [de]
theorem pO (L:List (List Int)) {i:Nat} (h:i<L.length):(de L).getD i []=[.aB 1 (L[i].map encI) L[i].length]:=by
 rw [XR,de,List.getElem?_map,Xb h];rfl
@[go_sem] theorem kp (n:Nat) (L:List (List Int)):bj n (de L)=true:=bw _ (fun l=>by simp only [aN,AV.wf,LH,YY]) _
def PR (L:List (List Int)) (s:List Int):Int:=match L.findIdx? (fun y=>decide (s=y)) with
 | some k=>(k:Int)
 | none=> -1
theorem IU (L:List (List Int)) (s:List Int) (hL:L.length<=1000000) (hl: ∀l∈L,l.length<=1000000) (hs:s.length<=1000000):aq Tryz.prog 71 [.aB 1 (de L) L.length, .aB 1 (s.map encI) s.length] (.v (.int .i64 (PR L s))):=by
 generalize hrv:PR L s=rv;refine gE Tryz.func71 Tryz.ntmps71 Tryz.results71 ?_
 (refine au ?_;intro K hK)
 refine bf (ι:=Nat) 6 (fun i=>[(5, .v (.int .i64 i))]) (fun i=>L.length - i) (fun i=>i<=L.length∧ ∀(j:Nat) (h:j<L.length),j<i->L[j]≠s) 0 ⟨WZ _,fun j _ h=>absurd h (Nat.not_lt_zero _)⟩ ?_ ?_
 ·refine bl ?_ ai
  all_goals rfl
 ·rintro i ⟨h1,h2⟩ K hK;have eW:=ak (k:=i) (by omega)
  (revert K;revert K;refine au ?_;intro K hK K hK K hK)
  refine bD.part (fun g=> ?_) (fun g=> ?_)
  ·have hlt:i<L.length:=by replace g:=pf g;omega
   have eG:=pO L hlt;have C:=K6 L[i] s (hl _ (List.getElem_mem hlt)) hs
   repeat (first|(with_reducible first|refine aw.up ?_|refine fun (K:AK) hK=> ?_|(refine hK _ ?_;clear hK K))|simp only [go_sem,g,eG,dq]|with_reducible refine wA ?_|clear hK K)
   refine aa.one C ?_
   by_cases he:L[i]=s
   ·have e1:decide (L[i]=s)=true:=decide_eq_true he
    have:(i:Int)=rv:=by
     rw [<-hrv,PR]
     have:L.findIdx? (fun y=>decide (s=y))=some i:=by
      rw [List.findIdx?_eq_some_iff_getElem];exact ⟨hlt,decide_eq_true he.symm,fun j hj=>by simpa using fun q=>h2 j (by omega) hj q.symm⟩
     rw [this]
    ((iterate 5 revert K);refine aP e1 ?_)
    rw [this]
   ·have e1:decide (L[i]=s)=false:=decide_eq_false he
    ((iterate 5 revert K);refine rZ e1 eW ?_)
    refine az.mk (i+1) ⟨hlt,fun j hj hji=> ?_⟩ (by omega) (by exact aR ai)
    rcases Nat.lt_succ_iff_lt_or_eq.1 hji with q|rfl
    ·exact h2 j hj q
    ·exact he
  ·have hin:i=L.length:=by replace g:=pf g;omega
   have:rv = -1:=by
    rw [<-hrv,PR]
    have:L.findIdx? (fun y=>decide (s=y))=none:=by
     rw [List.findIdx?_eq_none_iff];intro y hy;obtain ⟨j,hj,rfl⟩:=List.getElem_of_mem hy;exact decide_eq_false fun q=>h2 j hj (by omega) q.symm
    rw [this]
   ((iterate 3 revert K);refine au ?_)
   rw [this]
section
theorem l6 {n:Nat} {a b:List (Option ab)}: ∀ {l:List (Option ab)},(∀ob,some ob∈l->bj n ob.rows=true)->ku n a b->ku n (l++a) (l++b)
 | [],_,h=>h
 | x :: l,hl,h=>⟨.inr ⟨rfl,fun ob e=>hl ob (by rw [e];simp)⟩,l6 (fun ob hb=>hl ob (List.mem_cons_of_mem _ hb)) h⟩
theorem nk (n N:Nat) (f:Nat->Nat->Bool): ∀(m:Nat) ob,some ob∈aZ N f m->bj n ob.rows=true
 | 0,ob,h=>by cases h
 | m+1,ob,h=>by
  rw [ec,List.mem_append] at h
  rcases h with h|h
  ·exact nk n N f m ob h
  ·simp only [List.mem_cons,List.not_mem_nil,or_false,reduceCtorEq] at h;rw [jO] at h;cases h;exact aY _ _ _
theorem Cf {n k N m:Nat} {f:Nat->Nat->Bool} (h:k+2 * m<=n):ku n (bS k N m f) (bS k N m f):=by
 have:=l6 (n:=n) (a:=[]) (b:=[]) (l:=bS k N m f) (fun ob hb=>by
  rw [bS,List.mem_cons] at hb
  rcases hb with e|hb
  ·cases e;exact jQ h
  ·exact nk _ _ _ _ _ hb) trivial
 simpa using this
theorem wg (N m:Nat):bc 0 N (m+1)=bc 0 N m++[[.vec (2 * m+1) N]]:=by
 rw [dA,show kC 0 m=2 * m+1 by unfold kC;omega]
theorem DD {N m:Nat} {f:Nat->Nat->Bool} {a b:Option ab}:(aZ N f m++[a,b])[2 * m+1]? = some b:=by
 rw [List.getElem?_append_right (by rw [ah];omega),ah,show 2 * m+1 - 2 * m=1 by omega];rfl
theorem Bi (n:Nat) (hn:n<=1000):da Tryz.prog 165 [.v (.int .i64 n)] [] (.vec 0 (n+1)) (bS 0 (n+1) (n+1) (fun _ _=>false)):=by
 have eN:=ak (k:=n) (by omega);refine gF Tryz.func165 Tryz.ntmps165 Tryz.results165 ?_
 (refine au ?_;intro K hK)
 refine nB (ι:=Nat) 3 54 1 rfl (by decide) 5 (fun i=>[(3, .vec 0 i),(4, .v (.int .i64 i))]) (fun i=>bS 0 (n+1) i (fun _ _=>false)) (fun i=>n+1 - i) (fun i=>i<=n+1) 0 (by omega) ?_ ?_
 ·refine Sg ?_ ?_ ?_ ai
  ·exact ⟨rfl,rfl⟩
  ·exact Cf (by simp [bS])
  ·exact WZ _
 ·intro i hi K hK;simp only [bS]
  (revert K;revert K;refine au ?_;intro K hK K hK K hK)
  refine bD.part (fun h=> ?_) (fun h=> ?_)
  ·have eW:=ak (k:=i) (by replace h:=bG h;omega);have eL:([AV.v (.bool false)] :: List.replicate n [AV.v (.bool false)])=cV (n+1) (fun _=>false):=jD (n+1)
   repeat (first|(with_reducible first|refine aw.up ?_|refine fun (K:AK) hK=> ?_|(refine hK _ ?_;clear hK K))|simp only [go_sem,eN,eW,eL,ah,DD]|with_reducible refine wA ?_|clear hK K)
   refine az.mk (i+1) (by replace h:=bG h;omega) (by replace h:=bG h;omega) (ai ?_ ?_ ?_)
   ·simp only [bS,ah,WY];simp only [go_sem,dv,true_or,or_true,true_and,and_true];exact .inr (decide_eq_true (by omega))
   ·show ku (bS 0 (n+1) (i+1) (fun _ _=>false)).length _ (bS 0 (n+1) (i+1) (fun _ _=>false));generalize hz:(bS 0 (n+1) (i+1) (fun _ _=>false)).length=z
    have hz':z=2 * (i+1)+1:=by rw [<-hz,bS,WY,ah]
    have hwf:bj z (bc 0 (n+1) (i+1))=true:=jQ (by omega);simp only [bS,ec];refine ⟨.inr ⟨by rw [wg],fun ob e=>by cases e;exact hwf⟩,l6 (fun ob h=>nk _ _ _ _ _ h) ⟨.inr ⟨rfl,fun ob e=>by cases e;exact aY _ _ _⟩, .inl rfl,trivial⟩⟩
   ·exact WZ _
  ·have e1:i=n+1:=by replace h:=bG h;omega
   simp only [e1]
   ((iterate 3 revert K);refine au ?_)
   refine ⟨?_, ?_,WZ _⟩
   ·exact ⟨.inr ⟨rfl,decide_eq_true (by simp [bS])⟩,trivial⟩
   ·exact Cf (by simp [bS,ah])
theorem ki (f:Nat->Nat) (N:Nat) (g:Nat->Bool):cG f (cV N g)=cV N g:=dJ f _ (aY 0 N g)
theorem rB (f:Nat->Nat): ∀(a:List (List AV)) (b:List AV),cG f (a++[b])=cG f a++[bP f b]
 | [],b=>rfl
 | x :: a,b=>by rw [Y1,cG,rB f a b];rfl
theorem sj (k N:Nat): ∀m,cG (sig [] k) (bc 0 N m)=bc k N m
 | 0=>rfl
 | m+1=>by
  rw [dA,dA,rB,sj k N m];simp only [cG,bP,AV.bg,sig,WS,Nat.not_lt_zero,if_false,kC];rw [show k+(0+1+2 * m - 0)=k+1+2 * m by omega]
theorem KX (k N:Nat) (f:Nat->Nat->Bool): ∀m,(bS 0 N m f).map (Option.map (ab.bg (sig [] k)))=bS k N m f:=fun m=>by
 have h: ∀m,(aZ N f m).map (Option.map (ab.bg (sig [] k)))=aZ N f m:=fun m=>by
  induction m with
  | zero=>rfl
  | succ m ih=>rw [ec,List.map_append,ih];simp only [List.map_cons,List.map_nil,jO,Option.map_some,Option.map_none,ab.bg,ki]
 rw [bS,List.map_cons,h,Option.map_some,ab.bg,bS];simp only [sj]
theorem aa.y8 {n:Nat} {o:List (Option ab)} {K:AV->List (Option ab)->Prop} (hn:n<=1000) (k:K (.vec o.length (n+1)) (o++bS o.length (n+1) (n+1) (fun _ _=>false))):aa Tryz.prog 165 [.v (.int .i64 n)] o K:=by
 refine aa.fr [] (Bi n hn) List.nodup_nil rfl rfl rfl (fun k ob h=>by simp at h) ?_;have e1:(AV.vec 0 (n+1)).bg (sig [] o.length) = .vec o.length (n+1):=rfl;rw [e1,eu,KX];exact k
theorem gz (k N m:Nat) (f:Nat->Nat->Bool):(bS k N m f).length=2 * m+1:=by rw [bS,WY,ah]
theorem pc {t t':List AV} {y:jA} {N m:Nat} {f:Nat->Nat->Bool} (h:dv (2 * m+1) t t'):Wk 0 ⟨t,some ⟨54,1,true,bc 0 N m⟩ :: aZ N f m,y⟩ ⟨t',bS 0 N m f,y⟩:=
 ai (by rw [gz];exact h) (by rw [gz];exact Cf (by omega)) (WZ _)
def Sc (i j:Nat):Bool:=decide (i=j)
def su (i p q:Nat):Bool:=decide (p=q)&&decide (p<i)
theorem Gt (i:Nat):lZ (su i) i i true=su (i+1):=by
 funext p q
 rw [lZ,su,su]
 split
 ·rename_i h;obtain ⟨rfl,rfl⟩:=h;simp
 ·rename_i h
  by_cases hpq:p=q
  ·have:(p<i↔p<i+1):=by omega
   simp [hpq, <- this];omega
  ·simp [hpq]
theorem rL (n:Nat) (hn:n<=1000):aq Tryz.prog 166 [.v (.int .i64 n)] (.aB 1 (kE (n+1) Sc) (n+1)):=by
 have hd:decide (0<2 * (n+1)+1)=true:=decide_eq_true (by omega);refine kH.QT ?_
 (refine kH.enter Tryz.func166 rfl (by kernel_rfl) (by kernel_rfl) rfl (by simp only [go_sem,aN,AV.wf,YY,Yb,Yg,Go.undef]) (by simp only [go_sem,aN,AV.wf,aO,YY,Yb,Yg,Go.undef]) ?_;simp only [Tryz.ntmps166,Tryz.results166,WY,WS,Nat.reduceAdd,Nat.reduceSub,YB,YC,Y1,YR])
 (refine au ?_;intro K hK K hK)
 refine aa.y8 hn ?_;simp only [WS,YR]
 (revert K;revert K;refine au ?_;intro K hK)
 refine aV (ι:=Nat) 7 (fun i=>[(4, .v (.int .i64 i))]) (fun i=>bS 0 (n+1) (n+1) (su i)) (fun i=>n+1 - i) (fun i=>i<=n+1) 0 (by omega) ?_ ?_
 ·have e0:(fun _ _=>false)=su 0:=by funext p q;simp [su]
  rw [e0];refine pc ?_;simp only [go_sem,dv,true_or,or_true,true_and,and_true,hd];exact .inr rfl
 ·intro i hi K hK;simp only [bS]
  (revert K;revert K;refine au ?_;intro K hK K hK K hK)
  refine bD.part (fun h=> ?_) (fun h=> ?_)
  ·have hlt:i<n+1:=by replace h:=UA h;omega
   have eW:=ak (k:=i) (by replace h:=UA h;omega);have eO:=jL (k:=0) (N:=n+1) hlt;have hO: ∀x,(x :: aZ (n+1) (su i) (n+1))[kC 0 i]? = _:=fun x=>kW (k:=0) (x:=x) hlt;have eR:=cZ (g:=su i i) hlt;have eS:=fun x=>mS (N:=n+1) (j:=i) (f:=su i) (v:=true) (x:=x) hlt
   repeat (first|(with_reducible first|refine aw.up ?_|refine fun (K:AK) hK=> ?_|(refine hK _ ?_;clear hK K))|simp only [go_sem,eW,eO,hO,jO,eR,eS,Gt]|with_reducible refine wA ?_|clear hK K)
   refine az.mk (i+1) (by omega) (by omega) (pc ?_);simp only [go_sem,dv,true_or,or_true,true_and,and_true,hd]
  ·have e1:i=n+1:=by replace h:=UA h;omega
   have eA:aZ (n+1) (su (n+1)) (n+1)=aZ (n+1) Sc (n+1):=fq fun p q hp _=>by simp [su,Sc,hp]
   simp only [e1]
   ((iterate 3 revert K);refine au ?_)
   rw [eA];exact pY _ _
def Qx (a b:Nat->Nat->Bool) (i j:Nat):Bool:=decide (i<=j)&&(a i j||b i j)
def kB (a b:Nat->Nat->Bool) (i j p q:Nat):Bool:=decide (p<i∨(p=i∧q<j))&&Qx a b p q
theorem He {a b:Nat->Nat->Bool} {i j:Nat} (h:i<=j):lZ (kB a b i j) i j (a i j||b i j)=kB a b i (j+1):=by
 funext p q
 rw [lZ,kB,kB]
 split
 ·rename_i e;obtain ⟨rfl,rfl⟩:=e;simp [Qx,h]
 ·rename_i e
  congr 1
  rw [decide_eq_decide];omega
theorem Ky {a b:Nat->Nat->Bool} {i:Nat}:kB a b i i=kB a b i 0:=by
 funext p q
 rw [kB,kB,Y8];simp only [Qx,XK,decide_eq_true_eq]
 constructor
 ·rintro ⟨h1,h2,h3⟩;exact ⟨by omega,h2,h3⟩
 ·rintro ⟨h1,h2,h3⟩;exact ⟨by omega,h2,h3⟩
theorem Hd {a b:Nat->Nat->Bool} {N i:Nat}:aZ N (kB a b i N) N=aZ N (kB a b (i+1) 0) N:=fq fun p q hp hq=>by
 rw [kB,kB];congr 1;rw [decide_eq_decide];omega
theorem oL (n:Nat) (a b:Nat->Nat->Bool) (hn:n<=1000):aq Tryz.prog 168 [.aB 1 (kE (n+1) a) (n+1), .aB 1 (kE (n+1) b) (n+1)] (.aB 1 (kE (n+1) (Qx a b)) (n+1)):=by
 have hd:decide (0<2 * (n+1)+1)=true:=decide_eq_true (by omega)
 have eN:IntKind.i64.wrap (((n+1:Nat):Int) - 1)=(n:Int):=by rw [bH (by omega) (by omega)];omega
 refine kH.QT ?_
 (refine kH.enter Tryz.func168 rfl (by kernel_rfl) (by kernel_rfl) rfl (by simp only [go_sem,aN,AV.wf,YY,Yb,Yg,Go.undef]) (by simp only [go_sem,aN,AV.wf,aO,YY,Yb,Yg,Go.undef]) ?_;simp only [Tryz.ntmps168,Tryz.results168,WY,WS,Nat.reduceAdd,Nat.reduceSub,YB,YC,Y1,YR])
 (refine kS eN ?_;intro K hK K hK)
 refine aa.y8 hn ?_;simp only [WS,YR]
 (revert K;revert K;refine dZ ?_;intro K hK)
 refine aV (ι:=Nat) 12 (fun i=>[(6, .v (.int .i64 i)),(7, .undef)]) (fun i=>bS 0 (n+1) (n+1) (kB a b i 0)) (fun i=>n+1 - i) (fun i=>i<=n+1) 0 (by omega) ?_ ?_
 ·have e0:(fun _ _=>false)=kB a b 0 0:=by funext p q;simp [kB]
  rw [e0];refine pc ?_;simp only [go_sem,dv,true_or,or_true,true_and,and_true,hd];exact .inr rfl
 ·intro i hi K hK;simp only [bS]
  (revert K;revert K;refine dZ ?_;intro K hK K hK K hK)
  refine bD.part (fun h=> ?_) (fun h=> ?_)
  ·have hlt:i<n+1:=by replace h:=pf h;omega
   have eW:=ak (k:=i) (by omega);have eO:=jL (k:=0) (N:=n+1) hlt;have eA:=rl (f:=a) hlt;have eB:=rl (f:=b) hlt
   ((iterate 3 revert K);refine dZ ?_;intro K hK K hK K hK)
   refine aV (ι:=Nat) 19 (fun j=>[(7, .v (.int .i64 j))]) (fun j=>bS 0 (n+1) (n+1) (kB a b i j)) (fun j=>n+1 - j) (fun j=>i<=j∧j<=n+1) i (by omega) ?_ ?_
   ·rw [Ky];refine pc ?_;simp only [go_sem,dv,true_or,or_true,true_and,and_true,hd]
   ·rintro j ⟨hj1,hj2⟩ K hK;simp only [bS]
    ((iterate 4 revert K);refine dZ ?_;iterate 5 intro K hK)
    refine bD.part (fun h=> ?_) (fun h=> ?_)
    ·have hjt:j<n+1:=by replace h:=pf h;omega
     have eV:=ak (k:=j) (by omega);have eA2:=cZ (g:=a i) hjt;have eB2:=cZ (g:=b i) hjt;have hO: ∀x,(x :: aZ (n+1) (kB a b i j) (n+1))[kC 0 i]? = _:=fun x=>kW (k:=0) (x:=x) hlt;have eR:=cZ (g:=kB a b i j i) hjt;have eS:=fun x v=>mS (N:=n+1) (j:=j) (f:=kB a b i j) (v:=v) (x:=x) hlt;have eU:=He (a:=a) (b:=b) hj1
     cases ha:a i j
     ·rw [ha,Bool.false_or] at eU
      repeat (first|(with_reducible first|refine aw.up ?_|refine fun (K:AK) hK=> ?_|refine wE ?_|refine wK ?_|refine wF ?_|(refine hK _ ?_;clear hK K))|simp only [go_sem,eV,eO,eA,eB,eA2,eB2,ha,hO,jO,eR,eS,eU,Go.undef]|with_reducible refine wA ?_|clear hK K)
      refine az.mk (j+1) ⟨by omega,by omega⟩ (by omega) (pc ?_);simp only [go_sem,dv,true_or,or_true,true_and,and_true,hd,fg,AV.wf]
     ·rw [ha,Bool.true_or] at eU
      repeat (first|(with_reducible first|refine aw.up ?_|refine fun (K:AK) hK=> ?_|refine wE ?_|refine wK ?_|refine wF ?_|(refine hK _ ?_;clear hK K))|simp only [go_sem,eV,eO,eA,eB,eA2,eB2,ha,hO,jO,eR,eS,eU,Go.undef]|with_reducible refine wA ?_|clear hK K)
      refine az.mk (j+1) ⟨by omega,by omega⟩ (by omega) (pc ?_);simp only [go_sem,dv,true_or,or_true,true_and,and_true,hd,fg,AV.wf]
    ·have e1:j=n+1:=by replace h:=pf h;omega
     simp only [e1,Hd]
     ((iterate 5 revert K);refine kS eW ?_)
     refine az.mk (i+1) (by omega) (by omega) (pc ?_);simp only [go_sem,dv,true_or,or_true,true_and,and_true,hd,fg,AV.wf]
  ·have e1:i=n+1:=by replace h:=pf h;omega
   have eA:aZ (n+1) (kB a b (n+1) 0) (n+1)=aZ (n+1) (Qx a b) (n+1):=fq fun p q hp _=>by simp [kB,hp]
   simp only [e1]
   ((iterate 3 revert K);refine dZ ?_)
   rw [eA];exact pY _ _
def xS (N:Nat) (a b:Nat->Nat->Bool) (i j:Nat):Bool:=(List.range N).any fun k=>decide (i<=k∧k<=j)&&(a i k&&b k j)
theorem H4 {N:Nat} {a b:Nat->Nat->Bool} {i j:Nat}:xS N a b i j=true ↔ ∃k,k<N∧i<=k∧k<=j∧a i k=true∧b k j=true:=by
 simp only [xS,List.any_eq_true,List.mem_range,XK,decide_eq_true_eq,and_assoc]
def jW (N:Nat) (a b:Nat->Nat->Bool) (i k j p q:Nat):Bool:=
 if p<i then xS N a b p q else if p=i then (List.range k).any (fun k'=>decide (i<=k'∧k'<=q)&&(a i k'&&b k' q))||(decide (k<=q∧q<j)&&(a i k&&b k q)) else false
theorem H3 {N:Nat} {a b:Nat->Nat->Bool} {i k j:Nat} (h:k<=j) (ha:a i k=true):lZ (jW N a b i k j) i j (jW N a b i k j i j||b k j)=jW N a b i k (j+1):=by
 funext p q
 rw [lZ]
 split
 ·rename_i e;obtain ⟨rfl,rfl⟩:=e;simp only [jW,if_neg (Nat.lt_irrefl _),if_true,ha,Yg];have h1:decide (k<=q∧q<q)=false:=decide_eq_false (by omega);have h2:decide (k<=q∧q<q+1)=true:=decide_eq_true (by omega);rw [h1,h2];simp
 ·rename_i e;simp only [jW]
  split
  ·rfl
  ·split
   ·rename_i h1 h2;subst h2
    congr 2
    rw [decide_eq_decide]
    have:q≠j:=fun e'=>e ⟨rfl,e'⟩
    omega
   ·rfl
theorem QS {N:Nat} {a b:Nat->Nat->Bool} {i k:Nat} (hi:i<=k) (hk:a i k=false∨True):aZ N (jW N a b i k (if a i k then N else k)) N=aZ N (jW N a b i (k+1) (k+1)) N:=fq fun p q hp hq=>by
 simp only [jW]
 split
 ·rfl
 ·split
  ·rw [List.range_succ,List.any_append,Bool.or_assoc]
   congr 1
   have h2:decide (k+1<=q∧q<k+1)=false:=decide_eq_false (by omega);rw [h2];simp only [List.any_cons,List.any_nil,Bool.or_false,Bool.false_and]
   cases hh:a i k
   ·simp
   ·have:(k<=q∧q<N)=(i<=k∧k<=q):=by apply propext;omega
    simp [this]
  ·rfl
theorem Ls {N:Nat} {a b:Nat->Nat->Bool} {i:Nat}:aZ N (jW N a b i N N) N=aZ N (jW N a b (i+1) (i+1) (i+1)) N:=fq fun p q hp hq=>by
 simp only [jW]
 by_cases h1:p<i
 ·rw [if_pos h1,if_pos (by omega)]
 ·rw [if_neg h1]
  by_cases h2:p=i
  ·subst h2;rw [if_pos rfl,if_pos (by omega)];have h3:decide (N<=q∧q<N)=false:=decide_eq_false (by omega);rw [h3,Bool.false_and,Bool.or_false];rfl
  ·rw [if_neg h2,if_neg (by omega)]
   by_cases h4:p=i+1
   ·rw [if_pos h4]
    have h5:(List.range (i+1)).any (fun k'=>decide (i+1<=k'∧k'<=q)&&(a (i+1) k'&&b k' q))=false:=by
     rw [List.any_eq_false];intro x hx
     have:=List.mem_range.1 hx
     have h6:decide (i+1<=x∧x<=q)=false:=decide_eq_false (by omega);rw [h6];simp
    have h7:decide (i+1<=q∧q<i+1)=false:=decide_eq_false (by omega);rw [h5,h7];simp
   ·rw [if_neg h4]
theorem QR {N:Nat} {a b:Nat->Nat->Bool}:(fun _ _=>false)=jW N a b 0 0 0:=by
 funext p q
 simp [jW]
theorem oT (n:Nat) (a b:Nat->Nat->Bool) (hn:n<=1000):aq Tryz.prog 167 [.aB 1 (kE (n+1) a) (n+1), .aB 1 (kE (n+1) b) (n+1)] (.aB 1 (kE (n+1) (xS (n+1) a b)) (n+1)):=by
 have hd:decide (0<2 * (n+1)+1)=true:=decide_eq_true (by omega)
 have eN:IntKind.i64.wrap (((n+1:Nat):Int) - 1)=(n:Int):=by rw [bH (by omega) (by omega)];omega
 refine kH.QT ?_
 (refine kH.enter Tryz.func167 rfl (by kernel_rfl) (by kernel_rfl) rfl (by simp only [go_sem,aN,AV.wf,YY,Yb,Yg,Go.undef]) (by simp only [go_sem,aN,AV.wf,aO,YY,Yb,Yg,Go.undef]) ?_;simp only [Tryz.ntmps167,Tryz.results167,WY,WS,Nat.reduceAdd,Nat.reduceSub,YB,YC,Y1,YR])
 (refine kS eN ?_;intro K hK K hK)
 refine aa.y8 hn ?_;simp only [WS,YR]
 (revert K;revert K;refine dZ ?_;intro K hK)
 refine aV (ι:=Nat) 13 (fun i=>[(6, .v (.int .i64 i)),(7, .undef),(8, .undef)]) (fun i=>bS 0 (n+1) (n+1) (jW (n+1) a b i i i)) (fun i=>n+1 - i) (fun i=>i<=n+1) 0 (by omega) ?_ ?_
 ·rw [QR (N:=n+1) (a:=a) (b:=b)];refine pc ?_;simp only [go_sem,dv,true_or,or_true,true_and,and_true,hd];exact .inr rfl
 ·intro i hi K hK;simp only [bS]
  (revert K;revert K;refine dZ ?_;intro K hK K hK K hK)
  refine bD.part (fun h=> ?_) (fun h=> ?_)
  ·have hlt:i<n+1:=by replace h:=pf h;omega
   have eW:=ak (k:=i) (by omega);have eO:=jL (k:=0) (N:=n+1) hlt;have eA:=rl (f:=a) hlt
   ((iterate 3 revert K);refine dZ ?_;intro K hK K hK K hK)
   refine aV (ι:=Nat) 20 (fun k=>[(7, .v (.int .i64 k)),(8, .undef)]) (fun k=>bS 0 (n+1) (n+1) (jW (n+1) a b i k k)) (fun k=>n+1 - k) (fun k=>i<=k∧k<=n+1) i (by omega) ?_ ?_
   ·refine pc ?_;simp only [go_sem,dv,true_or,or_true,true_and,and_true,hd]
   ·rintro k ⟨hk1,hk2⟩ K hK;simp only [bS]
    ((iterate 4 revert K);refine dZ ?_;iterate 5 intro K hK)
    refine bD.part (fun h=> ?_) (fun h=> ?_)
    ·have hkt:k<n+1:=by replace h:=pf h;omega
     have eV:=ak (k:=k) (by omega);have eA2:=cZ (g:=a i) hkt;have eB:=rl (f:=b) hkt;have eK:=QS (N:=n+1) (a:=a) (b:=b) hk1 (.inr trivial)
     ((iterate 5 revert K);refine dZ ?_;iterate 5 intro K hK)
     refine aV (ι:=Nat) 27 (fun j=>[(8, .v (.int .i64 j))]) (fun j=>bS 0 (n+1) (n+1) (jW (n+1) a b i k j)) (fun j=>n+1 - j) (fun j=>k<=j∧j<=n+1∧(a i k=false->j=k)) k ⟨by omega,by omega,fun _=>rfl⟩ ?_ ?_
     ·refine pc ?_;simp only [go_sem,dv,true_or,or_true,true_and,and_true,hd]
     ·rintro j ⟨hj1,hj2,hj3⟩ K hK;simp only [bS]
      cases ha:a i k
      ·have hj:=hj3 ha;rw [ha] at eK;simp only [Bool.false_eq_true,if_false] at eK
       repeat (first|(with_reducible first|refine aw.up ?_|refine fun (K:AK) hK=> ?_|refine wE ?_|refine wK ?_|refine wF ?_|(refine hK _ ?_;clear hK K))|simp only [go_sem,eA,eA2,ha,Go.undef]|with_reducible refine wA ?_|clear hK K)
       simp only [hj,eK];refine kS eV ?_;refine az.mk (k+1) ⟨by omega,by omega⟩ (by omega) (pc ?_);simp only [go_sem,dv,true_or,or_true,true_and,and_true,hd,fg,AV.wf]
      ·rw [ha] at eK;simp only [if_true] at eK
       rcases Bool.eq_false_or_eq_true (decide ((j:Int)<((n+1:Nat):Int))) with hj|hj
       ·have hjt:j<n+1:=by replace hj:=pf hj;omega
        have eJ:=ak (k:=j) (by omega);have eB2:=cZ (g:=b k) hjt;have hO: ∀x,(x :: aZ (n+1) (jW (n+1) a b i k j) (n+1))[kC 0 i]? = _:=fun x=>kW (k:=0) (x:=x) hlt;have eR:=cZ (g:=jW (n+1) a b i k j i) hjt;have eS:=fun x v=>mS (N:=n+1) (j:=j) (f:=jW (n+1) a b i k j) (v:=v) (x:=x) hlt;have eU:=H3 (N:=n+1) (b:=b) hj1 ha
        cases hv:jW (n+1) a b i k j i j
        ·rw [hv,Bool.false_or] at eU
         repeat (first|(with_reducible first|refine aw.up ?_|refine fun (K:AK) hK=> ?_|refine wE ?_|refine wK ?_|refine wF ?_|(refine hK _ ?_;clear hK K))|simp only [go_sem,eJ,eA,eA2,ha,hj,eO,eB,eB2,hO,hv,jO,eR,eS,eU,Go.undef]|with_reducible refine wA ?_|clear hK K)
         refine az.mk (j+1) ⟨by omega,by omega⟩ (by omega) (pc ?_);simp only [go_sem,dv,true_or,or_true,true_and,and_true,hd,fg,AV.wf]
        ·rw [hv,Bool.true_or] at eU
         repeat (first|(with_reducible first|refine aw.up ?_|refine fun (K:AK) hK=> ?_|refine wE ?_|refine wK ?_|refine wF ?_|(refine hK _ ?_;clear hK K))|simp only [go_sem,eJ,eA,eA2,ha,hj,eO,eB,eB2,hO,hv,jO,eR,eS,eU,Go.undef]|with_reducible refine wA ?_|clear hK K)
         refine az.mk (j+1) ⟨by omega,by omega⟩ (by omega) (pc ?_);simp only [go_sem,dv,true_or,or_true,true_and,and_true,hd,fg,AV.wf]
       ·have hje:j=n+1:=by replace hj:=pf hj;omega
        repeat (first|(with_reducible first|refine aw.up ?_|refine fun (K:AK) hK=> ?_|refine wE ?_|refine wK ?_|refine wF ?_|(refine hK _ ?_;clear hK K))|simp only [go_sem,eA,eA2,ha,hj,Go.undef]|with_reducible refine wA ?_|clear hK K)
        simp only [hje,eK];refine kS eV ?_;refine az.mk (k+1) ⟨by omega,by omega⟩ (by omega) (pc ?_);simp only [go_sem,dv,true_or,or_true,true_and,and_true,hd,fg,AV.wf]
    ·have e1:k=n+1:=by replace h:=pf h;omega
     simp only [e1,Ls]
     ((iterate 5 revert K);refine kS eW ?_)
     refine az.mk (i+1) (by omega) (by omega) (pc ?_);simp only [go_sem,dv,true_or,or_true,true_and,and_true,hd,fg,AV.wf]
  ·have e1:i=n+1:=by replace h:=pf h;omega
   have eA:aZ (n+1) (jW (n+1) a b (n+1) (n+1) (n+1)) (n+1)=aZ (n+1) (xS (n+1) a b) (n+1):=fq fun p q hp _=>by simp [jW,hp]
   simp only [e1]
   ((iterate 3 revert K);refine dZ ?_)
   rw [eA];exact pY _ _
open Classical in
noncomputable def gM (L:List ByteArray->Prop) (w:List ByteArray) (i j:Nat):Bool:=decide (Tk L w i j)
theorem dU {L:List ByteArray->Prop} {w:List ByteArray} {i j:Nat}:gM L w i j=true↔Tk L w i j:=by simp [gM]
theorem iu {L M:List ByteArray->Prop} {w:List ByteArray} (h: ∀u,u.length<=w.length->(L u↔M u)):gM L w=gM M w:=by
 funext i j
 rw [Y8,dU,dU]
 have: ∀(h2:j<=w.length),(Ag w i j).length<=w.length:=fun h2=>by rw [pF h2];omega
 constructor
 ·rintro ⟨h1,h2,h3⟩;exact ⟨h1,h2,(h _ (this h2)).1 h3⟩
 ·rintro ⟨h1,h2,h3⟩;exact ⟨h1,h2,(h _ (this h2)).2 h3⟩
theorem uN {N:Nat} {f g:Nat->Nat->Bool} (h: ∀i j,i<N->j<N->(f i j=true↔g i j=true)):kE N f=kE N g:=Qo fun i j hi hj=>Y8.2 (h i j hi hj)
theorem NK (w:List ByteArray):kE (w.length+1) (fun _ _=>false)=kE (w.length+1) (gM (fun _=>False) w):=uN fun i j hi hj=>by
 rw [dU];simp [Tk]
theorem uO (w:List ByteArray):kE (w.length+1) Sc=kE (w.length+1) (gM (fun u=>u=[]) w):=uN fun i j hi hj=>by
 rw [dU,Sc,decide_eq_true_eq]
 constructor
 ·rintro rfl;exact ⟨Nat.le_refl _,by omega,Jb _ _⟩
 ·rintro ⟨h1,h2,h3⟩
  have:=pF (i:=i) h2
  rw [h3] at this;simp at this;omega
theorem Kn (L M:List ByteArray->Prop) (w:List ByteArray):kE (w.length+1) (Qx (gM L w) (gM M w))=kE (w.length+1) (gM (fun u=>L u∨M u) w):=uN fun i j hi hj=>by
 rw [dU,Qx,XK,Bool.or_eq_true,decide_eq_true_eq,dU,dU]
 constructor
 ·rintro ⟨h1,⟨_,h2,h3⟩|⟨_,h2,h3⟩⟩
  ·exact ⟨h1,h2, .inl h3⟩
  ·exact ⟨h1,h2, .inr h3⟩
 ·rintro ⟨h1,h2,h3|h3⟩
  ·exact ⟨h1, .inl ⟨h1,h2,h3⟩⟩
  ·exact ⟨h1, .inr ⟨h1,h2,h3⟩⟩
theorem y5 (L M:List ByteArray->Prop) (w:List ByteArray):kE (w.length+1) (xS (w.length+1) (gM L w) (gM M w))=kE (w.length+1) (gM (fun u=> ∃a b,u=a++b∧L a∧M b) w):=uN fun i j hi hj=>by
 rw [dU,H4]
 constructor
 ·rintro ⟨k,_,h1,h2,h3,h4⟩;obtain ⟨_,_,h5⟩:=dU.1 h3;obtain ⟨_,h6,h7⟩:=dU.1 h4;exact ⟨by omega,h6,_,_,(ES h1 h2).symm,h5,h7⟩
 ·rintro ⟨h1,h2,a,b,h3,h4,h5⟩;obtain ⟨k,k1,k2,rfl,rfl⟩:=Ja h1 h2 h3;exact ⟨k,by omega,k1,k2,dU.2 ⟨k1,by omega,h4⟩,dU.2 ⟨k2,h2,h5⟩⟩
def dj (L:List ByteArray->Prop):Nat->List ByteArray->Prop
 | 0,u=>u=[]
 | k+1,u=>u=[]∨ ∃a b,u=a++b∧L a∧dj L k b
theorem dj.nil {L:List ByteArray->Prop}: ∀k,dj L k []
 | 0=>rfl
 | k+1=> .inl rfl
theorem dj.one {L:List ByteArray->Prop} {u:List ByteArray}:dj L 1 u↔(u=[]∨L u):=by
 simp only [dj]
 constructor
 ·rintro (h|⟨a,b,rfl,h,rfl⟩)
  ·exact .inl h
  ·exact .inr (by simpa using h)
 ·rintro (h|h)
  ·exact .inl h
  ·exact .inr ⟨u,[],by simp,h,rfl⟩
theorem dj.mono {L:List ByteArray->Prop}: ∀ {k m:Nat} {u:List ByteArray},k<=m->dj L k u->dj L m u
 | 0,m,u,_,h=>by rw [dj] at h;subst h;exact .nil _
 | k+1,0,u,hk,_=>by omega
 | k+1,m+1,u,hk,h=>by
  rw [dj] at h ⊢
  rcases h with h|⟨a,b,e,h1,h2⟩
  ·exact .inl h
  ·exact .inr ⟨a,b,e,h1,dj.mono (by omega) h2⟩
theorem dj.add {L:List ByteArray->Prop}: ∀ {k m:Nat} {u:List ByteArray},dj L (k+m) u ↔ ∃a b,u=a++b∧dj L k a∧dj L m b
 | 0,m,u=>by
  rw [Nat.zero_add]
  constructor
  ·intro h;exact ⟨[],u,rfl,rfl,h⟩
  ·rintro ⟨a,b,rfl,h1,h2⟩;rw [dj] at h1;subst h1;exact h2
 | k+1,m,u=>by
  rw [show k+1+m=(k+m)+1 by omega]
  constructor
  ·intro h;rw [dj] at h
   rcases h with rfl|⟨a,b,rfl,h1,h2⟩
   ·exact ⟨[],[],rfl, .nil _, .nil _⟩
   ·obtain ⟨c,d,rfl,h3,h4⟩:=dj.add.1 h2;exact ⟨a++c,d,by simp, .inr ⟨a,c,rfl,h1,h3⟩,h4⟩
  ·rintro ⟨a,b,rfl,h1,h2⟩;rw [dj] at h1
   rcases h1 with rfl|⟨c,d,rfl,h3,h4⟩
   ·exact dj.mono (by omega) h2
   ·rw [dj];exact .inr ⟨c,d++b,by simp,h3,dj.add.2 ⟨d,b,rfl,h4,h2⟩⟩
theorem dj.star {L:List ByteArray->Prop}: ∀ {k:Nat} {u:List ByteArray},dj L k u->db L u
 | 0,u,h=>by rw [dj] at h;subst h;exact .nil
 | k+1,u,h=>by
  rw [dj] at h
  rcases h with rfl|⟨a,b,rfl,h1,h2⟩
  ·exact .nil
  ·exact (db.one h1).append h2.star
theorem db.pow {L:List ByteArray->Prop} {u:List ByteArray} (h:db L u):dj L u.length u:=by
 induction h with
 | nil=>rfl
 | cons a b h1 h2 _ ih=>
  rw [List.length_append]
  have:0<a.length:=List.length_pos_iff.2 h1
  exact dj.mono (k:=b.length+1) (by omega) (.inr ⟨a,b,rfl,h2,ih⟩)
theorem KN {L:List ByteArray->Prop} {k:Nat} {u:List ByteArray} (h:u.length<=k):dj L k u↔db L u:=⟨dj.star,fun hs=>dj.mono h hs.pow⟩
theorem Cu {l:List Ex} {x:Ex} {u:List ByteArray}:ix (l++[x]) u↔ix l u∨Lg x u:=by
 rw [ny,ny]
 constructor
 ·rintro ⟨y,hy,h⟩
  rcases List.mem_append.1 hy with hy|hy
  ·exact .inl ⟨y,hy,h⟩
  ·rw [List.mem_singleton] at hy;subst hy;exact .inr h
 ·rintro (⟨y,hy,h⟩|h)
  ·exact ⟨y,List.mem_append_left _ hy,h⟩
  ·exact ⟨x,List.mem_append_right _ (List.mem_singleton.2 rfl),h⟩
theorem Cv {l:List Ex} {x:Ex} {u:List ByteArray}:cY (l++[x]) u ↔ ∃a b,u=a++b∧cY l a∧Lg x b:=by
 rw [qF]
 constructor
 ·rintro ⟨a,b,rfl,h,k⟩;rw [cY] at k;obtain ⟨c,d,rfl,k1,k2⟩:=k;rw [cY] at k2;subst k2;exact ⟨a,c,by simp,h,k1⟩
 ·rintro ⟨a,b,rfl,h,k⟩;refine ⟨a,b,rfl,h, ?_⟩;rw [cY];exact ⟨b,[],by simp,k,by rw [cY]⟩
def iU (w:List ByteArray) (s:ByteArray) (m i j:Nat):Bool:=decide (j=i+1∧i<m)&&((w.getD i ⟨#[]⟩).toList==s.toList)
theorem J2 (w:List ByteArray) (s:ByteArray):(fun _ _=>false)=iU w s 0:=by funext i j;simp [iU]
theorem A0 (w:List ByteArray) (s:ByteArray) (m:Nat):lZ (iU w s m) m (m+1) ((w.getD m ⟨#[]⟩).toList==s.toList)=iU w s (m+1):=by
 funext p q
 rw [lZ,iU,iU]
 split
 ·rename_i h;obtain ⟨rfl,rfl⟩:=h;simp
 ·rename_i h
  congr 1
  rw [decide_eq_decide];omega
theorem Qp (w:List ByteArray) (s:ByteArray):kE (w.length+1) (iU w s w.length)=kE (w.length+1) (gM (fun u=>u=[s]) w):=uN fun i j hi hj=>by
 rw [dU,iU,XK,decide_eq_true_eq,beq_iff_eq]
 constructor
 ·rintro ⟨⟨rfl,h1⟩,h2⟩;refine ⟨by omega,by omega, ?_⟩;have h3:w.getD i ⟨#[]⟩=s:=toList_inj.1 (by rw [h2];exact beq_self_eq_true _);rw [Ag,show i+1 - i=1 by omega,X1 h1,List.take_succ_cons,List.take_zero, <- h3,XR,Xb h1];rfl
 ·rintro ⟨h1,h2,h3⟩;have h4:=pF (i:=i) h2;rw [h3] at h4;simp at h4
  have hj:j=i+1:=by omega
  subst hj
  have h5:i<w.length:=by omega
  rw [Ag,show i+1 - i=1 by omega,X1 h5,List.take_succ_cons,List.take_zero] at h3;refine ⟨⟨rfl,h5⟩, ?_⟩;rw [XR,Xb h5];simp only [List.cons.injEq,and_true] at h3;rw [h3];rfl
end
def cu (x:Ex):Bool:=(aj x).all Ex.part
theorem yn (k:Int) (s:ByteArray) (l:List Ex):cu (.mk k s l)=(bp k s l.length&&l.all cu):=by
 unfold cu;rw [aj,bo,List.all_cons,List.all_flatMap];rfl
theorem KD (x:Ex):(∀z,z∈aj x->z.kids.length<=1000000∧z.label.size<=1000000000000000)->aq Tryz.prog 67 [.agg (aM x)] (.v (.bool (cu x))):=by
 induction x using Ex.ind with
 | h k s l ih=>
  intro hz;have hs:l.length<=1000000∧s.size<=1000000000000000:=hz (.mk k s l) (by rw [aj];exact List.mem_cons_self);have hsub: ∀y,y∈l->aq Tryz.prog 67 [.agg (aM y)] (.v (.bool (cu y))):=fun y hy=>ih y hy (fun z hz'=>hz z (by rw [aj,bo];exact List.mem_cons_of_mem _ (List.mem_flatMap.2 ⟨_,hy,hz'⟩)));have F:=Jt s hs.2;rw [aA,yn];simp only [Ex.kind,Ex.label,Ex.kids];refine gE Tryz.func67 Tryz.ntmps67 Tryz.results67 ?_
  (refine au ?_;intro K hK)
  rcases (by by_cases a1:k=1<;>by_cases a2:k=2<;>by_cases a3:k=3<;>by_cases a4:k=4<;>by_cases a5:k=5<;>by_cases a6:k=6<;>simp_all:k=1∨k=2∨k=3∨k=4∨k=5∨k=6∨(k≠1∧k≠2∧k≠3∧k≠4∧k≠5∧k≠6)) with hk|hk|hk|hk|hk|hk|hk
  ·have e1:(k==1)=true:=by rw [beq_iff_eq];omega
   have e2:(k==2)=false:=by rw [<-XI,beq_iff_eq];omega
   have e3:(k==3)=false:=by rw [<-XI,beq_iff_eq];omega
   have e4:(k==4)=false:=by rw [<-XI,beq_iff_eq];omega
   have e5:(k==5)=false:=by rw [<-XI,beq_iff_eq];omega
   have e6:(k==6)=false:=by rw [<-XI,beq_iff_eq];omega
   (revert K;refine r6 e1 e2 e3 e4 e5 e6 ?_;intro K hK K hK K hK)
   refine aa.one F ?_
   ((iterate 3 revert K);refine r6 e1 e2 e3 e4 e5 e6 ?_;intro K hK K hK K hK)
   cases hf:di s with
   | false=>
    ((iterate 3 revert K);refine w9 hf ?_)
    rw [bp];simp only [e1,if_true,hf,ZB,Yt]
   | true=>
    ((iterate 3 revert K);refine aP hf ?_)
    rcases Nat.eq_zero_or_pos l.length with q|q
    ·have e:l=[]:=List.eq_nil_of_length_eq_zero q;rw [e,bp];simp [e1,hf]
    ·have a:((l.length:Int)==0)=false:=by rw [<-XI,beq_iff_eq];omega
     have b:decide (l.length=0)=false:=decide_eq_false (by omega);rw [a,bp];simp only [e1,if_true,b,Yt]
  ·have e1:(k==1)=false:=by rw [<-XI,beq_iff_eq];omega
   have e2:(k==2)=true:=by rw [beq_iff_eq];omega
   have e3:(k==3)=false:=by rw [<-XI,beq_iff_eq];omega
   have e4:(k==4)=false:=by rw [<-XI,beq_iff_eq];omega
   have e5:(k==5)=false:=by rw [<-XI,beq_iff_eq];omega
   have e6:(k==6)=false:=by rw [<-XI,beq_iff_eq];omega
   (revert K;refine r6 e1 e2 e3 e4 e5 e6 ?_;intro K hK)
   refine bD.part (fun h0=> ?_) (fun h0=> ?_)
   ·have hl:l.length<2:=by replace h0:=bG h0;omega
    (revert K;refine aP h0 ?_)
    have hd:decide (1<l.length)=false:=decide_eq_false (by omega);rw [bp];simp [e1,e2,e3,hd]
   ·have hl:1<l.length:=by replace h0:=bG h0;omega
    (revert K;refine aP h0 ?_;intro K hK)
    refine bE (ι:=Nat) (fun i=>[(1, .ptr 0 0 3 0 0),(2, .v (.bool false)),(3, .v (.int .i64 i))]) (fun _=>[some ⟨25,3,false,[[.v (.int .i64 k), .v (.string s), .aB 3 (l.map aM) l.length]]⟩]) (fun i=>l.length - i) (fun i=>i<=l.length∧ ∀j (h:j<l.length),j<i->cu l[j]=true) 0 ⟨by omega,fun j _ h=>absurd h (by omega)⟩ ?_ ?_
    ·refine bl ?_ ai
     rfl
    ·rintro i ⟨hi,hP⟩ K hK;simp only [dV,Yw,Yx,YB,YC,go_sem]
     (revert K;revert K;refine au ?_;intro K hK K hK K hK)
     refine bD.part (fun h=> ?_) (fun h=> ?_)
     ·have hlt:i<l.length:=by replace h:=bG h;omega
      have eW:=ak (k:=i) (by omega);have eG:=getD_map aM l i [] hlt;have C:=hsub l[i] (Ym hlt);simp only [aA] at C eG
      repeat (first|(with_reducible first|refine aw.up ?_|refine fun (K:AK) hK=> ?_|(refine hK _ ?_;clear hK K))|simp only [go_sem,eG]|with_reducible refine wA ?_|clear hK K)
      refine aa.one C ?_
      ((iterate 5 revert K);refine aP eG ?_;intro K hK K hK K hK)
      refine bD.part (fun h5=> ?_) (fun h5=> ?_)
      ·((iterate 3 revert K);refine aP eW ?_)
       exact az.mk (i+1) ⟨by omega,fun j hj h3=>(by
        rcases WV j i with r|r
        ·exact hP j hj r
        ·have e:j=i:=by omega
         subst e
         exact h5)⟩ (by omega) (by exact aR ai)
      ·((iterate 3 revert K);refine aP h5 ?_)
       have e:l.all cu=false:=by
        rw [<-XI,X7];intro hh;rw [hh _ (Ym hlt)] at h5;cases h5
       rw [e,ZB]
     ·have he:i=l.length:=by replace h:=bG h;omega
      have e:l.all cu=true:=X7.2 (fun y hy=>by
       obtain ⟨j,hj,rfl⟩:=ZC hy
       exact hP j hj (by omega))
      ((iterate 3 revert K);refine au ?_)
      rw [e,uS,Yb,bp];simp only [e1,e2,e3,e4,e5,e6];have hd:decide (1<l.length)=true:=decide_eq_true (by omega);simp [hd]
  ·have e1:(k==1)=false:=by rw [<-XI,beq_iff_eq];omega
   have e2:(k==2)=false:=by rw [<-XI,beq_iff_eq];omega
   have e3:(k==3)=true:=by rw [beq_iff_eq];omega
   have e4:(k==4)=false:=by rw [<-XI,beq_iff_eq];omega
   have e5:(k==5)=false:=by rw [<-XI,beq_iff_eq];omega
   have e6:(k==6)=false:=by rw [<-XI,beq_iff_eq];omega
   (revert K;refine r6 e1 e2 e3 e4 e5 e6 ?_;intro K hK)
   refine bD.part (fun h0=> ?_) (fun h0=> ?_)
   ·have hl:l.length<2:=by replace h0:=bG h0;omega
    (revert K;refine aP h0 ?_)
    have hd:decide (1<l.length)=false:=decide_eq_false (by omega);rw [bp];simp [e1,e2,e3,hd]
   ·have hl:1<l.length:=by replace h0:=bG h0;omega
    (revert K;refine aP h0 ?_;intro K hK)
    refine bE (ι:=Nat) (fun i=>[(1, .ptr 0 0 3 0 0),(2, .v (.bool false)),(3, .v (.int .i64 i))]) (fun _=>[some ⟨25,3,false,[[.v (.int .i64 k), .v (.string s), .aB 3 (l.map aM) l.length]]⟩]) (fun i=>l.length - i) (fun i=>i<=l.length∧ ∀j (h:j<l.length),j<i->cu l[j]=true) 0 ⟨by omega,fun j _ h=>absurd h (by omega)⟩ ?_ ?_
    ·refine bl ?_ ai
     rfl
    ·rintro i ⟨hi,hP⟩ K hK;simp only [dV,Yw,Yx,YB,YC,go_sem]
     (revert K;revert K;refine au ?_;intro K hK K hK K hK)
     refine bD.part (fun h=> ?_) (fun h=> ?_)
     ·have hlt:i<l.length:=by replace h:=bG h;omega
      have eW:=ak (k:=i) (by omega);have eG:=getD_map aM l i [] hlt;have C:=hsub l[i] (Ym hlt);simp only [aA] at C eG
      repeat (first|(with_reducible first|refine aw.up ?_|refine fun (K:AK) hK=> ?_|(refine hK _ ?_;clear hK K))|simp only [go_sem,eG]|with_reducible refine wA ?_|clear hK K)
      refine aa.one C ?_
      ((iterate 5 revert K);refine aP eG ?_;intro K hK K hK K hK)
      refine bD.part (fun h5=> ?_) (fun h5=> ?_)
      ·((iterate 3 revert K);refine aP eW ?_)
       exact az.mk (i+1) ⟨by omega,fun j hj h3=>(by
        rcases WV j i with r|r
        ·exact hP j hj r
        ·have e:j=i:=by omega
         subst e
         exact h5)⟩ (by omega) (by exact aR ai)
      ·((iterate 3 revert K);refine aP h5 ?_)
       have e:l.all cu=false:=by
        rw [<-XI,X7];intro hh;rw [hh _ (Ym hlt)] at h5;cases h5
       rw [e,ZB]
     ·have he:i=l.length:=by replace h:=bG h;omega
      have e:l.all cu=true:=X7.2 (fun y hy=>by
       obtain ⟨j,hj,rfl⟩:=ZC hy
       exact hP j hj (by omega))
      ((iterate 3 revert K);refine au ?_)
      rw [e,uS,Yb,bp];simp only [e1,e2,e3,e4,e5,e6];have hd:decide (1<l.length)=true:=decide_eq_true (by omega);simp [hd]
  ·have e1:(k==1)=false:=by rw [<-XI,beq_iff_eq];omega
   have e2:(k==2)=false:=by rw [<-XI,beq_iff_eq];omega
   have e3:(k==3)=false:=by rw [<-XI,beq_iff_eq];omega
   have e4:(k==4)=true:=by rw [beq_iff_eq];omega
   have e5:(k==5)=false:=by rw [<-XI,beq_iff_eq];omega
   have e6:(k==6)=false:=by rw [<-XI,beq_iff_eq];omega
   (revert K;refine r6 e1 e2 e3 e4 e5 e6 ?_;intro K hK)
   refine bD.part (fun h0=> ?_) (fun h0=> ?_)
   ·have hl:l.length≠1:=by replace h0:=bG h0;omega
    (revert K;refine aP h0 ?_)
    have hd:decide (l.length=1)=false:=decide_eq_false hl;rw [bp];simp [e1,e2,e3,e4,e5,e6,hd]
   ·have hl:l.length=1:=by replace h0:=bG h0;omega
    (revert K;refine aP h0 ?_;intro K hK)
    refine bE (ι:=Nat) (fun i=>[(1, .ptr 0 0 3 0 0),(2, .v (.bool false)),(3, .v (.int .i64 i))]) (fun _=>[some ⟨25,3,false,[[.v (.int .i64 k), .v (.string s), .aB 3 (l.map aM) l.length]]⟩]) (fun i=>l.length - i) (fun i=>i<=l.length∧ ∀j (h:j<l.length),j<i->cu l[j]=true) 0 ⟨by omega,fun j _ h=>absurd h (by omega)⟩ ?_ ?_
    ·refine bl ?_ ai
     rfl
    ·rintro i ⟨hi,hP⟩ K hK;simp only [dV,Yw,Yx,YB,YC,go_sem]
     (revert K;revert K;refine au ?_;intro K hK K hK K hK)
     refine bD.part (fun h=> ?_) (fun h=> ?_)
     ·have hlt:i<l.length:=by replace h:=bG h;omega
      have eW:=ak (k:=i) (by omega);have eG:=getD_map aM l i [] hlt;have C:=hsub l[i] (Ym hlt);simp only [aA] at C eG
      repeat (first|(with_reducible first|refine aw.up ?_|refine fun (K:AK) hK=> ?_|(refine hK _ ?_;clear hK K))|simp only [go_sem,eG]|with_reducible refine wA ?_|clear hK K)
      refine aa.one C ?_
      ((iterate 5 revert K);refine aP eG ?_;intro K hK K hK K hK)
      refine bD.part (fun h5=> ?_) (fun h5=> ?_)
      ·((iterate 3 revert K);refine aP eW ?_)
       exact az.mk (i+1) ⟨by omega,fun j hj h3=>(by
        rcases WV j i with r|r
        ·exact hP j hj r
        ·have e:j=i:=by omega
         subst e
         exact h5)⟩ (by omega) (by exact aR ai)
      ·((iterate 3 revert K);refine aP h5 ?_)
       have e:l.all cu=false:=by
        rw [<-XI,X7];intro hh;rw [hh _ (Ym hlt)] at h5;cases h5
       rw [e,ZB]
     ·have he:i=l.length:=by replace h:=bG h;omega
      have e:l.all cu=true:=X7.2 (fun y hy=>by
       obtain ⟨j,hj,rfl⟩:=ZC hy
       exact hP j hj (by omega))
      ((iterate 3 revert K);refine au ?_)
      rw [e,uS,Yb,bp];simp only [e1,e2,e3,e4,e5,e6];have hd:decide (l.length=1)=true:=decide_eq_true (by omega);simp [hd]
  ·have e1:(k==1)=false:=by rw [<-XI,beq_iff_eq];omega
   have e2:(k==2)=false:=by rw [<-XI,beq_iff_eq];omega
   have e3:(k==3)=false:=by rw [<-XI,beq_iff_eq];omega
   have e4:(k==4)=false:=by rw [<-XI,beq_iff_eq];omega
   have e5:(k==5)=true:=by rw [beq_iff_eq];omega
   have e6:(k==6)=false:=by rw [<-XI,beq_iff_eq];omega
   (revert K;refine r6 e1 e2 e3 e4 e5 e6 ?_;intro K hK)
   refine bD.part (fun h0=> ?_) (fun h0=> ?_)
   ·have hl:l.length≠1:=by replace h0:=bG h0;omega
    (revert K;refine aP h0 ?_)
    have hd:decide (l.length=1)=false:=decide_eq_false hl;rw [bp];simp [e1,e2,e3,e4,e5,e6,hd]
   ·have hl:l.length=1:=by replace h0:=bG h0;omega
    (revert K;refine aP h0 ?_;intro K hK)
    refine bE (ι:=Nat) (fun i=>[(1, .ptr 0 0 3 0 0),(2, .v (.bool false)),(3, .v (.int .i64 i))]) (fun _=>[some ⟨25,3,false,[[.v (.int .i64 k), .v (.string s), .aB 3 (l.map aM) l.length]]⟩]) (fun i=>l.length - i) (fun i=>i<=l.length∧ ∀j (h:j<l.length),j<i->cu l[j]=true) 0 ⟨by omega,fun j _ h=>absurd h (by omega)⟩ ?_ ?_
    ·refine bl ?_ ai
     rfl
    ·rintro i ⟨hi,hP⟩ K hK;simp only [dV,Yw,Yx,YB,YC,go_sem]
     (revert K;revert K;refine au ?_;intro K hK K hK K hK)
     refine bD.part (fun h=> ?_) (fun h=> ?_)
     ·have hlt:i<l.length:=by replace h:=bG h;omega
      have eW:=ak (k:=i) (by omega);have eG:=getD_map aM l i [] hlt;have C:=hsub l[i] (Ym hlt);simp only [aA] at C eG
      repeat (first|(with_reducible first|refine aw.up ?_|refine fun (K:AK) hK=> ?_|(refine hK _ ?_;clear hK K))|simp only [go_sem,eG]|with_reducible refine wA ?_|clear hK K)
      refine aa.one C ?_
      ((iterate 5 revert K);refine aP eG ?_;intro K hK K hK K hK)
      refine bD.part (fun h5=> ?_) (fun h5=> ?_)
      ·((iterate 3 revert K);refine aP eW ?_)
       exact az.mk (i+1) ⟨by omega,fun j hj h3=>(by
        rcases WV j i with r|r
        ·exact hP j hj r
        ·have e:j=i:=by omega
         subst e
         exact h5)⟩ (by omega) (by exact aR ai)
      ·((iterate 3 revert K);refine aP h5 ?_)
       have e:l.all cu=false:=by
        rw [<-XI,X7];intro hh;rw [hh _ (Ym hlt)] at h5;cases h5
       rw [e,ZB]
     ·have he:i=l.length:=by replace h:=bG h;omega
      have e:l.all cu=true:=X7.2 (fun y hy=>by
       obtain ⟨j,hj,rfl⟩:=ZC hy
       exact hP j hj (by omega))
      ((iterate 3 revert K);refine au ?_)
      rw [e,uS,Yb,bp];simp only [e1,e2,e3,e4,e5,e6];have hd:decide (l.length=1)=true:=decide_eq_true (by omega);simp [hd]
  ·have e1:(k==1)=false:=by rw [<-XI,beq_iff_eq];omega
   have e2:(k==2)=false:=by rw [<-XI,beq_iff_eq];omega
   have e3:(k==3)=false:=by rw [<-XI,beq_iff_eq];omega
   have e4:(k==4)=false:=by rw [<-XI,beq_iff_eq];omega
   have e5:(k==5)=false:=by rw [<-XI,beq_iff_eq];omega
   have e6:(k==6)=true:=by rw [beq_iff_eq];omega
   (revert K;refine r6 e1 e2 e3 e4 e5 e6 ?_;intro K hK)
   refine bD.part (fun h0=> ?_) (fun h0=> ?_)
   ·have hl:l.length≠1:=by replace h0:=bG h0;omega
    (revert K;refine aP h0 ?_)
    have hd:decide (l.length=1)=false:=decide_eq_false hl;rw [bp];simp [e1,e2,e3,e4,e5,e6,hd]
   ·have hl:l.length=1:=by replace h0:=bG h0;omega
    (revert K;refine aP h0 ?_;intro K hK)
    refine bE (ι:=Nat) (fun i=>[(1, .ptr 0 0 3 0 0),(2, .v (.bool false)),(3, .v (.int .i64 i))]) (fun _=>[some ⟨25,3,false,[[.v (.int .i64 k), .v (.string s), .aB 3 (l.map aM) l.length]]⟩]) (fun i=>l.length - i) (fun i=>i<=l.length∧ ∀j (h:j<l.length),j<i->cu l[j]=true) 0 ⟨by omega,fun j _ h=>absurd h (by omega)⟩ ?_ ?_
    ·refine bl ?_ ai
     rfl
    ·rintro i ⟨hi,hP⟩ K hK;simp only [dV,Yw,Yx,YB,YC,go_sem]
     (revert K;revert K;refine au ?_;intro K hK K hK K hK)
     refine bD.part (fun h=> ?_) (fun h=> ?_)
     ·have hlt:i<l.length:=by replace h:=bG h;omega
      have eW:=ak (k:=i) (by omega);have eG:=getD_map aM l i [] hlt;have C:=hsub l[i] (Ym hlt);simp only [aA] at C eG
      repeat (first|(with_reducible first|refine aw.up ?_|refine fun (K:AK) hK=> ?_|(refine hK _ ?_;clear hK K))|simp only [go_sem,eG]|with_reducible refine wA ?_|clear hK K)
      refine aa.one C ?_
      ((iterate 5 revert K);refine aP eG ?_;intro K hK K hK K hK)
      refine bD.part (fun h5=> ?_) (fun h5=> ?_)
      ·((iterate 3 revert K);refine aP eW ?_)
       exact az.mk (i+1) ⟨by omega,fun j hj h3=>(by
        rcases WV j i with r|r
        ·exact hP j hj r
        ·have e:j=i:=by omega
         subst e
         exact h5)⟩ (by omega) (by exact aR ai)
      ·((iterate 3 revert K);refine aP h5 ?_)
       have e:l.all cu=false:=by
        rw [<-XI,X7];intro hh;rw [hh _ (Ym hlt)] at h5;cases h5
       rw [e,ZB]
     ·have he:i=l.length:=by replace h:=bG h;omega
      have e:l.all cu=true:=X7.2 (fun y hy=>by
       obtain ⟨j,hj,rfl⟩:=ZC hy
       exact hP j hj (by omega))
      ((iterate 3 revert K);refine au ?_)
      rw [e,uS,Yb,bp];simp only [e1,e2,e3,e4,e5,e6];have hd:decide (l.length=1)=true:=decide_eq_true (by omega);simp [hd]
  ·have e1:(k==1)=false:=by rw [<-XI,beq_iff_eq];omega
   have e2:(k==2)=false:=by rw [<-XI,beq_iff_eq];omega
   have e3:(k==3)=false:=by rw [<-XI,beq_iff_eq];omega
   have e4:(k==4)=false:=by rw [<-XI,beq_iff_eq];omega
   have e5:(k==5)=false:=by rw [<-XI,beq_iff_eq];omega
   have e6:(k==6)=false:=by rw [<-XI,beq_iff_eq];omega
   (revert K;refine r6 e1 e2 e3 e4 e5 e6 ?_)
   rw [bp];simp [e1,e2,e3,e4,e5,e6]
theorem nP (x:Ex) (h1:(aj x).length<=1000000) (hz: ∀z,z∈aj x->z.kids.length<=1000000∧z.label.size<=1000000000000000):aq Tryz.prog 36 [.agg (aM x)] (.v (.bool (aC x))):=by
 have S:=Lc x h1;have T:=KD x hz;have e:aC x=(decide ((aj x).length<=24)&&cu x):=rfl;rw [e];simp only [aA] at S T ⊢;refine gE Tryz.func36 Tryz.ntmps36 Tryz.results36 ?_
 (refine bq ?_;intro K hK K hK)
 refine aa.one S ?_
 (revert K;revert K;refine bq ?_;intro K hK K hK)
 refine bD.part (fun h=> ?_) (fun h=> ?_)
 ·(revert K;revert K;refine JB h ?_;intro K hK K hK)
  refine aa.one T ?_
  (revert K;revert K;refine JB h ?_)
  have hd:decide ((aj x).length<=24)=true:=by (try simp only [decide_eq_true_eq,decide_eq_false_iff_not] at h);exact decide_eq_true (by omega)
  rw [hd,Bool.true_and]
 ·(revert K;revert K;refine l9 h ?_)
  have hd:decide ((aj x).length<=24)=false:=by (try simp only [decide_eq_true_eq,decide_eq_false_iff_not] at h);exact decide_eq_false (by omega)
  rw [hd,Yt]
theorem da.LY {P:Program} {f:FuncId} {args:List AV} {r0 r:AV} {o':List (Option ab)} (h:da P f args [] r0 o') (ha:aN 0 args=true) (hr:r.wf 0=true) (hz:pk o' r0 r):kH P f args r:=by
 obtain ⟨hc,h2⟩:=h;refine ⟨⟨ha,hr⟩,hc,fun D nu w vargs hro hra=>(h2 D nu w vargs hro hra).mono ?_⟩;rintro e w' ⟨v,nu',o2,r2,rfl,hm,hro',hra',rfl,rfl⟩;refine ⟨v,rfl,⟨hm.os,hm.tape,hm.output,hm.size,fun b hb=>(hm.keep b hb (bb _ _)).1⟩,(hz _ _ _ _ hro' hra').tr (n:=0) (fun b hf=>⟨hf.1,bb _ _, ?_⟩) (fun id len hlt=>by omega) hr⟩
 rcases Nat.lt_or_ge b w.heap.size with q|q
 ·exact absurd hf.2.2 (hm.keep b q (bb _ _)).2
 ·exact q
theorem pZ (n:Nat) (hn:n<=1000):aq Tryz.prog 165 [.v (.int .i64 n)] (.aB 1 (kE (n+1) (fun _ _=>false)) (n+1)):=
 ((Bi n hn).LY rfl (by simp only [AV.wf,fg]) (pY _ _)).QT
theorem xv {k N m i:Nat} {f:Nat->Nat->Bool} {b x:Option ab} (h:i<m):(b :: x :: aZ N f m)[kC 1 i]? = some (jO N (f i)):=by
 rw [show kC 1 i=kC 0 i+1 by unfold kC;omega,List.getElem?_cons_succ];exact kW (k:=k) h
theorem G7 {N m i j:Nat} {f:Nat->Nat->Bool} {v:Bool} {b x:Option ab} (h:i<m):(b :: x :: aZ N f m).set (kC 1 i) (some ⟨4,1,true,(cV N (f i)).set j [.v (.bool v)]⟩)=b :: x :: aZ N (lZ f i j v) m:=by
 rw [show kC 1 i=kC 0 i+1 by unfold kC;omega,List.set_cons_succ,mS h]
theorem QZ {n k N m:Nat} {f:Nat->Nat->Bool} {b:Option ab} (hb: ∀ob,b=some ob->bj n ob.rows=true) (h:k+2 * m<=n):ku n (b :: bS k N m f) (b :: bS k N m f):=⟨.inr ⟨rfl,hb⟩,Cf h⟩
theorem Pp {t t':List AV} {y:jA} {N m:Nat} {f:Nat->Nat->Bool} {b:Option ab} (hb: ∀n ob,b=some ob->bj n ob.rows=true) (h:dv (2 * m+2) t t'):Wk 0 ⟨t,b :: some ⟨54,1,true,bc 1 N m⟩ :: aZ N f m,y⟩ ⟨t',b :: bS 1 N m f,y⟩:=by
 have e:(b :: bS 1 N m f).length=2 * m+2:=by rw [WY,gz]
 exact ai (by rw [e];exact h) (by rw [e];exact QZ (hb _) (by omega)) (Nat.zero_le _)
theorem G5 (b:Option ab) (N:Nat) (f:Nat->Nat->Bool):pk (b :: bS 1 N N f) (.vec 1 N) (.aB 1 (kE N f) N):=by
 refine pk.Ov (ob:=⟨54,1,true,bc 1 N N⟩) rfl rfl (cO _ _ _) (by rw [sP];exact (cO _ _ _).symm) fun i row row' h1 h2=> ?_
 have hi:i<N:=by have:=(List.getElem?_eq_some_iff.1 h1).1;rw [cO] at this;exact this
 have e1:(bc 1 N N)[i]? = some [.vec (kC 1 i) N]:=by rw [bc,List.getElem?_map,List.getElem?_range hi];rfl
 have e2:(kE N f)[i]? = some [.aB 1 (cV N (f i)) N]:=by rw [kE,List.getElem?_map,List.getElem?_range hi];rfl
 cases (WL (e1.symm.trans h1));cases (WL (e2.symm.trans h2));refine ⟨rfl,fun j c c' k1 k2=> ?_⟩
 match j,k1,k2 with
 | 0,k1,k2=>
  cases k1;cases k2;exact pk.vec (ob:=⟨4,1,true,cV N (f i)⟩) (xv (k:=0) hi) rfl (js _ _) (xD _ (fun s c hc=>by rw [List.mem_singleton] at hc;exact ⟨_,hc⟩) _)
 | j+1,k1,k2=>simp at k1
def ja (w:List ByteArray) (x:Ex):Prop:=aq Tryz.prog 150 [.agg (aM x),aS w] (.aB 1 (kE (w.length+1) (gM (Lg x) w)) (w.length+1))
theorem LD (w:List ByteArray) (hw:w.length<=1000) (s:ByteArray):ja w (.mk 1 s []):=by
 have hd:decide (1<2 * (w.length+1)+2)=true:=decide_eq_true (by omega);have hd0:decide (0<2 * (w.length+1)+2)=true:=decide_eq_true (by omega)
 have eL:gM (Lg (.mk 1 s [])) w=gM (fun u=>u=[s]) w:=iu fun u _=>by simp [Lg]
 rw [ja,eL, <- Qp];simp only [aA,aS,Ex.kind,Ex.label,Ex.kids,Y5,WS];refine kH.QT ?_
 (refine kH.enter Tryz.func150 rfl (by kernel_rfl) (by kernel_rfl) rfl (by simp only [go_sem,aN,AV.wf,YY,Bool.and_true,Bool.true_and,Go.undef]) (by simp only [go_sem,aN,AV.wf,aO,YY,Bool.and_true,Bool.true_and,Go.undef]) ?_;simp only [Tryz.ntmps150,Tryz.results150,WY,WS,Nat.reduceAdd,Nat.reduceSub,List.replicate_succ,List.replicate_zero,List.cons_append,List.nil_append])
 (refine dZ ?_;intro K hK K hK)
 refine aa.y8 hw ?_;simp only [WY,WS,List.cons_append,List.nil_append,XJ]
 (revert K;revert K;refine dZ ?_;intro K hK)
 refine aV (ι:=Nat) 20 (fun i=>[(7, .v (.int .i64 i))]) (fun i=>some ⟨25,3,false,[[.v (.int .i64 1), .v (.string s), .aB 3 [] 0]]⟩ :: bS 1 (w.length+1) (w.length+1) (iU w s i)) (fun i=>w.length - i) (fun i=>i<=w.length) 0 (by omega) ?_ ?_
 ·rw [J2 w s];refine Pp (fun n ob e=>by cases e;rfl) ?_;simp only [go_sem,dv,true_or,or_true,true_and,and_true,hd,hd0];exact .inr rfl
 ·intro i hi K hK;simp only [bS]
  (revert K;revert K;refine dZ ?_;intro K hK K hK K hK)
  refine bD.part (fun h=> ?_) (fun h=> ?_)
  ·have hlt:i<w.length:=by replace h:=bG h;omega
   have hlt1:i<w.length+1:=by omega
   have hlt2:i+1<w.length+1:=by omega
   have eW:=ak (k:=i) (by omega);have eO:=jL (k:=1) (N:=w.length+1) hlt1;have hO: ∀b x,(b :: x :: aZ (w.length+1) (iU w s i) (w.length+1))[kC 1 i]? = _:=fun b x=>xv (k:=0) (b:=b) (x:=x) hlt1
   have eG:(w.map encS).getD i []=[.v (.string (w.getD i ⟨#[]⟩))]:=by
    rw [getD_map encS w i [] hlt,encS,List.getD_eq_getElem?_getD,List.getElem?_eq_getElem hlt];rfl
   have eR:=cZ (g:=iU w s i i) hlt2;have eS:=fun b x v=>G7 (N:=w.length+1) (j:=i+1) (f:=iU w s i) (v:=v) (b:=b) (x:=x) hlt1;have eU:=A0 w s i
   repeat (first|(with_reducible first|refine aw.up ?_|refine fun (K:AK) hK=> ?_|refine wE ?_|refine wK ?_|refine wF ?_|(refine hK _ ?_;clear hK K))|simp only [go_sem,eW,eO,hO,eG,jO,eR,eS,eU]|with_reducible refine wA ?_|clear hK K)
   refine az.mk (i+1) (by omega) (by omega) (Pp (fun n ob e=>by cases e;rfl) ?_);simp only [go_sem,dv,true_or,or_true,true_and,and_true,hd,hd0]
  ·have e1:i=w.length:=by replace h:=bG h;omega
   simp only [e1]
   ((iterate 3 revert K);refine dZ ?_)
   exact G5 _ _ _
theorem LG (w:List ByteArray) (hw:w.length<=1000) (s:ByteArray) (l:List Ex) (hl:l.length<=1000000) (H: ∀x,x∈l->ja w x):ja w (.mk 2 s l):=by
 have N:=pZ w.length hw;have S:=rL w.length hw
 have eL:gM (Lg (.mk 2 s l)) w=gM (cY l) w:=iu fun u _=>by simp [Lg]
 have e0:gM (fun u=>u=[]) w=gM (cY (l.take 0)) w:=iu fun u _=>by simp [cY]
 rw [uO,e0] at S;have H2:=fun x hx=>H x hx;simp only [ja] at H2 ⊢;rw [eL];simp only [aA,aS,Ex.kind,Ex.label,Ex.kids] at H2 ⊢;refine gE Tryz.func150 Tryz.ntmps150 Tryz.results150 ?_
 (refine au ?_;intro K hK K hK)
 refine aa.one N ?_
 (revert K;revert K;refine au ?_;intro K hK K hK K hK)
 refine aa.one S ?_
 ((iterate 3 revert K);refine au ?_;intro K hK)
 refine bf (ι:=Nat) 43 (fun k=>[(6, .aB 1 (kE (w.length+1) (gM (cY (l.take k)) w)) (w.length+1)),(8, .v (.int .i64 k))]) (fun k=>l.length - k) (fun k=>k<=l.length) 0 (by omega) ?_ ?_
 ·refine bl ?_ ai
  rfl
 ·intro k hk K hK
  (revert K;revert K;refine au ?_;intro K hK K hK K hK)
  refine bD.part (fun h=> ?_) (fun h=> ?_)
  ·have hlt:k<l.length:=by replace h:=pf h;omega
   have eW:=ak (k:=k) (by omega);have eG:=getD_map aM l k [] hlt;have HX:=H2 l[k] (List.getElem_mem hlt);have J:=oT w.length (gM (cY (l.take k)) w) (gM (Lg l[k]) w) hw
   have eM:gM (fun u=> ∃a b,u=a++b∧cY (l.take k) a∧Lg l[k] b) w=gM (cY (l.take (k+1))) w:=iu fun u _=>by
    rw [Y3 hlt,Cv]
   rw [y5,eM] at J;simp only [aA] at eG
   repeat (first|(with_reducible first|refine aw.up ?_|refine fun (K:AK) hK=> ?_|(refine hK _ ?_;clear hK K))|simp only [go_sem,eG]|with_reducible refine wA ?_|clear hK K)
   refine aa.one HX ?_
   ((iterate 4 revert K);refine au ?_;iterate 4 intro K hK)
   refine aa.one J ?_
   ((iterate 4 revert K);refine aP eW ?_)
   exact az.mk (k+1) (by omega) (by omega) (by exact aR ai)
  ·have e1:l.take k=l:=Y7 (by replace h:=pf h;omega);simp only [e1]
   ((iterate 3 revert K);refine au ?_)
   exact gd.aB (fg _ _ _)
theorem LC (w:List ByteArray) (hw:w.length<=1000) (s:ByteArray) (l:List Ex) (hl:l.length<=1000000) (H: ∀x,x∈l->ja w x):ja w (.mk 3 s l):=by
 have N:=pZ w.length hw
 have eL:gM (Lg (.mk 3 s l)) w=gM (ix l) w:=iu fun u _=>by simp [Lg]
 have e0:gM (fun _=>False) w=gM (ix (l.take 0)) w:=iu fun u _=>by simp [ix]
 rw [NK,e0] at N;have H2:=fun x hx=>H x hx;simp only [ja] at H2 ⊢;rw [eL];simp only [aA,aS,Ex.kind,Ex.label,Ex.kids] at H2 ⊢;refine gE Tryz.func150 Tryz.ntmps150 Tryz.results150 ?_
 (refine au ?_;intro K hK K hK)
 refine aa.one N ?_
 (revert K;revert K;refine au ?_;intro K hK)
 refine bf (ι:=Nat) 61 (fun k=>[(6, .aB 1 (kE (w.length+1) (gM (ix (l.take k)) w)) (w.length+1)),(9, .v (.int .i64 k))]) (fun k=>l.length - k) (fun k=>k<=l.length) 0 (by omega) ?_ ?_
 ·refine bl ?_ ai
  rfl
 ·intro k hk K hK
  (revert K;revert K;refine au ?_;intro K hK K hK K hK)
  refine bD.part (fun h=> ?_) (fun h=> ?_)
  ·have hlt:k<l.length:=by replace h:=pf h;omega
   have eW:=ak (k:=k) (by omega);have eG:=getD_map aM l k [] hlt;have HX:=H2 l[k] (List.getElem_mem hlt);have J:=oL w.length (gM (ix (l.take k)) w) (gM (Lg l[k]) w) hw
   have eM:gM (fun u=>ix (l.take k) u∨Lg l[k] u) w=gM (ix (l.take (k+1))) w:=iu fun u _=>by
    rw [Y3 hlt,Cu]
   rw [Kn,eM] at J;simp only [aA] at eG
   repeat (first|(with_reducible first|refine aw.up ?_|refine fun (K:AK) hK=> ?_|(refine hK _ ?_;clear hK K))|simp only [go_sem,eG]|with_reducible refine wA ?_|clear hK K)
   refine aa.one HX ?_
   ((iterate 4 revert K);refine au ?_;iterate 4 intro K hK)
   refine aa.one J ?_
   ((iterate 4 revert K);refine aP eW ?_)
   exact az.mk (k+1) (by omega) (by omega) (by exact aR ai)
  ·have e1:l.take k=l:=Y7 (by replace h:=pf h;omega);simp only [e1]
   ((iterate 3 revert K);refine au ?_)
   exact gd.aB (fg _ _ _)
theorem LF (w:List ByteArray) (hw:w.length<=1000) (s:ByteArray) (x:Ex) (H:ja w x):ja w (.mk 6 s [x]):=by
 have N:=pZ w.length hw;have S:=rL w.length hw;have O:=oL w.length (gM (fun u=>u=[]) w) (gM (Lg x) w) hw
 have eL:gM (fun u=>u=[]∨Lg x u) w=gM (Lg (.mk 6 s [x])) w:=iu fun u _=>by simp [Lg,te]
 rw [Kn,eL] at O;rw [uO] at S;simp only [ja] at H ⊢;simp only [aA,aS,Ex.kind,Ex.label,Ex.kids,List.map_cons,Y5,WY,WS,XJ] at H ⊢;refine gE Tryz.func150 Tryz.ntmps150 Tryz.results150 ?_
 (refine bU ?_;intro K hK K hK)
 refine aa.one N ?_
 (revert K;revert K;refine bU ?_;intro K hK K hK)
 refine aE.one S ?_
 repeat (first|(with_reducible first|refine aw.up ?_|refine fun (K:AK) hK=> ?_|refine wD ?_|(refine hK _ ?_;clear hK K))|simp only [go_sem]|with_reducible refine wA ?_|clear hK K)
 refine aE.one H ?_
 (revert K;revert K;refine bU ?_;intro K hK K hK)
 refine aE.one O ?_
 (revert K;revert K;refine bU ?_)
 exact gd.aB (fg _ _ _)
theorem xT (w:List ByteArray) (hw:w.length<=1000) (kd:Int) (hk:kd=4∨kd=5) (s:ByteArray) (x:Ex) (H:ja w x):ja w (.mk kd s [x]):=by
 have N:=pZ w.length hw;have S:=rL w.length hw;have O:=oL w.length (gM (fun u=>u=[]) w) (gM (Lg x) w) hw;have e1:gM (fun u=>u=[]∨Lg x u) w=gM (dj (Lg x) 1) w:=iu fun u _=>dj.one.symm;rw [Kn,e1] at O;rw [uO] at S;have J:=fun k=>oT w.length (gM (dj (Lg x) k) w) (gM (dj (Lg x) k) w) hw;have e2: ∀k,gM (fun u=> ∃a b,u=a++b∧dj (Lg x) k a∧dj (Lg x) k b) w=gM (dj (Lg x) (k+k)) w:=fun k=>iu fun u _=>dj.add.symm;simp only [y5,e2] at J;have P:=oT w.length (gM (Lg x) w) (gM (db (Lg x)) w) hw
 have e5:gM (fun u=> ∃a b,u=a++b∧Lg x a∧db (Lg x) b) w=gM (Lg (.mk 5 s [x])) w:=iu fun u _=>by simp [Lg,te]
 have e4:gM (db (Lg x)) w=gM (Lg (.mk 4 s [x])) w:=iu fun u _=>by
  have:te [x]=Lg x:=by funext v;rw [te]
  simp [Lg,this]
 have eP: ∀k,w.length<=k->gM (dj (Lg x) k) w=gM (db (Lg x)) w:=fun k hk=>iu fun u hu=>KN (by omega);rw [y5,e5] at P;simp only [ja] at H ⊢
 rcases hk with rfl|rfl
 all_goals
  simp only [aA,aS,Ex.kind,Ex.label,Ex.kids,List.map_cons,Y5,WY,WS,XJ] at H ⊢;refine gE Tryz.func150 Tryz.ntmps150 Tryz.results150 ?_
  repeat (first|(with_reducible first|refine aw.up ?_|refine fun (K:AK) hK=> ?_|(refine hK _ ?_;clear hK K))|simp only [go_sem]|with_reducible refine wA ?_|clear hK K)
  refine aa.one N ?_
  repeat (first|(with_reducible first|refine aw.up ?_|refine fun (K:AK) hK=> ?_|(refine hK _ ?_;clear hK K))|simp only [go_sem]|with_reducible refine wA ?_|clear hK K)
  refine aa.one H ?_
  repeat (first|(with_reducible first|refine aw.up ?_|refine fun (K:AK) hK=> ?_|(refine hK _ ?_;clear hK K))|simp only [go_sem]|with_reducible refine wA ?_|clear hK K)
  refine aa.one S ?_
  repeat (first|(with_reducible first|refine aw.up ?_|refine fun (K:AK) hK=> ?_|(refine hK _ ?_;clear hK K))|simp only [go_sem]|with_reducible refine wA ?_|clear hK K)
  refine aa.one O ?_
  repeat (first|(with_reducible first|refine aw.up ?_|refine fun (K:AK) hK=> ?_|(refine hK _ ?_;clear hK K))|simp only [go_sem]|with_reducible refine wA ?_|clear hK K)
  refine bf (ι:=Nat) 101 (fun k=>[(6, .aB 1 (kE (w.length+1) (gM (dj (Lg x) k) w)) (w.length+1)),(11, .v (.int .i64 k))]) (fun k=>w.length - k) (fun k=>1<=k∧k<=2 * w.length+1) 1 (by omega) ?_ ?_
  ·refine bl ?_ ai
   rfl
  ·rintro k ⟨hk1,hk2⟩ K hK
   repeat (first|(with_reducible first|refine aw.up ?_|refine fun (K:AK) hK=> ?_|(refine hK _ ?_;clear hK K))|simp only [go_sem]|with_reducible refine wA ?_|clear hK K)
   refine bD.part (fun h=> ?_) (fun h=> ?_)
   ·have hlt:k<w.length:=by replace h:=pf h;omega
    have eW:IntKind.i64.wrap (2 * (k:Int))=((k+k:Nat):Int):=by rw [bH (by omega) (by omega)];omega
    have Jk:=J k
    repeat (first|(with_reducible first|refine aw.up ?_|refine fun (K:AK) hK=> ?_|(refine hK _ ?_;clear hK K))|simp only [go_sem]|with_reducible refine wA ?_|clear hK K)
    refine aa.one Jk ?_
    repeat (first|(with_reducible first|refine aw.up ?_|refine fun (K:AK) hK=> ?_|(refine hK _ ?_;clear hK K))|simp only [go_sem,eW]|with_reducible refine wA ?_|clear hK K)
    exact az.mk (k+k) ⟨by omega,by omega⟩ (by omega) (by exact aR ai)
   ·rw [eP k (by replace h:=pf h;omega)]
    repeat (first|(with_reducible first|refine aw.up ?_|refine fun (K:AK) hK=> ?_|(refine hK _ ?_;clear hK K))|simp only [go_sem]|with_reducible refine wA ?_|clear hK K)
    first
     | ((refine aa.one P ?_);((revert K;revert K;refine au ?_));(exact gd.aB (fg _ _ _)))
     | (rw [e4];exact gd.aB (fg _ _ _))
theorem QY (w:List ByteArray) (hw:w.length<=1000) {x:Ex} (h:Fit x) (hx:(aj x).length<=1000000):ja w x:=by
 induction h with
 | lab s=>exact LD w hw s
 | many k s l hk hl _ ih=>
  have hl2:=j8 (.mk k s l);simp only [Ex.kids] at hl2
  have sub: ∀y,y∈l->(aj y).length<=1000000:=fun y hy=>by
   have:=fW (.mk k s l) y (by rw [aj,bo];exact XW _ (List.mem_flatMap.2 ⟨y,hy,by obtain ⟨k',s',l'⟩:=y;rw [aj];exact List.mem_cons_self⟩))
   omega
  rcases hk with rfl|rfl
  ·exact LG w hw s l (by omega) (fun y hy=>ih y hy (sub y hy))
  ·exact LC w hw s l (by omega) (fun y hy=>ih y hy (sub y hy))
 | one k s y hk _ ih=>
  have sub:(aj y).length<=1000000:=by
   have:=fW (.mk k s [y]) y (by rw [aj,bo];exact XW _ (List.mem_flatMap.2 ⟨y,by simp,by obtain ⟨k',s',l'⟩:=y;rw [aj];exact List.mem_cons_self⟩))
   omega
  rcases hk with rfl|rfl|rfl
  ·exact xT w hw 4 (.inl rfl) s y (ih sub)
  ·exact xT w hw 5 (.inr rfl) s y (ih sub)
  ·exact LF w hw s y (ih sub)
theorem Hz (x:Ex) (w:List ByteArray) (hw:w.length<=1000) (h1:(aj x).length<=1000000) (hz: ∀z,z∈aj x->z.kids.length<=1000000∧z.label.size<=1000000000000000):aq Tryz.prog 133 [.agg (aM x),aS w] (.v (.bool (j6 x w))):=by
 have R:=nP x h1 hz
 cases hr:aC x
 ·have e:j6 x w=false:=by rw [<-Bool.not_eq_true,iC];simp [hr]
  rw [hr] at R;rw [e];simp only [aA,aS] at R ⊢;refine gE Tryz.func133 Tryz.ntmps133 Tryz.results133 ?_
  (refine au ?_;intro K hK K hK K hK)
  refine aa.one R ?_
  ((iterate 3 revert K);exact pR)
 ·have W:=QY w hw (dN hr).1 h1
  have e:j6 x w=gM (Lg x) w 0 w.length:=by
   rw [Bool.eq_iff_iff,iC,dU,Tk.word];simp [hr]
  have eA:=rl (N:=w.length+1) (f:=gM (Lg x) w) (i:=0) (by omega);have eB:=cZ (N:=w.length+1) (g:=gM (Lg x) w 0) (j:=w.length) (by omega);rw [hr] at R;rw [e];simp only [ja,aA,aS] at R W ⊢;refine gE Tryz.func133 Tryz.ntmps133 Tryz.results133 ?_
  (refine au ?_;intro K hK K hK K hK)
  refine aa.one R ?_
  ((iterate 3 revert K);refine au ?_;intro K hK K hK)
  refine aa.one W ?_
  (revert K;revert K;exact JJ eA eB)
theorem Aw (x:Ex):j6 x []=dy x:=by
 rw [Bool.eq_iff_iff,iC,dy,Bool.and_eq_true]
 constructor
 ·rintro ⟨h,k⟩;exact ⟨h,(fT (dN h).1).2 k⟩
 ·rintro ⟨h,k⟩;exact ⟨h,(fT (dN h).1).1 k⟩
theorem qQ (x:Ex) (h1:(aj x).length<=1000000) (hz: ∀z,z∈aj x->z.kids.length<=1000000∧z.label.size<=1000000000000000):aq Tryz.prog 100 [.agg (aM x)] (.v (.bool (dy x))):=by
 have T:=(Hz x [] (by simp) h1 hz).le (args':=[.agg (aM x), .v (.slice none 0 0)]) (by simp only [go_sem,dL,YY]) (.cons (.refl _) (.cons (.nil 1) .nil));rw [Aw] at T;simp only [aA] at T ⊢;refine gE Tryz.func100 Tryz.ntmps100 Tryz.results100 ?_
 (refine bq ?_;intro K hK K hK)
 refine aa.one T ?_
 (revert K;revert K;exact pS)
theorem Kh (x:Ex) (hr:aC x=true):aq Tryz.prog 101 [.agg (aM x)] (.v (.int .i64 (aD x).length)):=by
 induction x using Ex.ind with
 | h k s l ih=>
  by_cases h1:k=1
  ·subst h1;rw [aD,if_pos rfl];simp only [aA,Ex.kind,Ex.label,Ex.kids];refine gE Tryz.func101 Tryz.ntmps101 Tryz.results101 ?_;refine au ?_
   rfl
  ·have f1:(k==1)=false:=beq_false_of_ne h1;have hx:=ri hr;have hk:=lW hr
   have hl:l.length<=24:=by
    simp only [aC,Bool.and_eq_true,decide_eq_true_eq] at hr
    have:=j8 (.mk k s l);simp only [Ex.kids] at this;omega
   rw [cW h1] at hx ⊢;simp only [aA,Ex.kind,Ex.label,Ex.kids];refine gE Tryz.func101 Tryz.ntmps101 Tryz.results101 ?_
   (refine aP f1 ?_;intro K hK)
   refine bE (ι:=Nat) (fun i=>[(1, .ptr 0 0 3 0 0),(3, .v (.int .i64 (aK (l.take i)).length)),(4, .v (.int .i64 i))]) (fun i=>[some ⟨25,3,false,[[.v (.int .i64 k), .v (.string s), .aB 3 (l.map aM) l.length]]⟩]) (fun i=>l.length - i) (fun i=>i<=l.length) 0 (by omega) ?_ ?_
   ·refine bl ?_ ai;exact ⟨rfl,rfl⟩
   ·intro i hi K hK;simp only [dV,List.foldl_cons,List.foldl_nil,List.replicate_succ,List.replicate_zero,go_sem]
    (revert K;revert K;refine au ?_;intro K hK K hK K hK)
    refine bD.part (fun h=> ?_) (fun h=> ?_)
    ·have hlt:i<l.length:=by replace h:=bG h;omega
     have eW:=ak (k:=i) (by omega);have eG:=getD_map aM l i [] hlt;have HX:=ih l[i] (List.getElem_mem hlt) (hk _ (List.getElem_mem hlt))
     have hS:(aK (l.take (i+1))).length=(aK (l.take i)).length+(aD l[i]).length:=by
      rw [List.take_succ_eq_append_getElem hlt,ij,List.length_append];simp [aK]
     have hB:(aK l).length=(aK (l.take (i+1))).length+(aK (l.drop (i+1))).length:=by rw [<-List.length_append, <- ij,List.take_append_drop]
     have eS:IntKind.i64.wrap (((aK (l.take i)).length:Int)+((aD l[i]).length:Int))=((aK (l.take (i+1))).length:Int):=by rw [bH (by omega) (by omega),hS];omega
     simp only [aA] at HX eG
     repeat (first|(with_reducible first|refine aw.up ?_|refine fun (K:AK) hK=> ?_|(refine hK _ ?_;clear hK K))|simp only [go_sem,eG]|with_reducible refine wA ?_|clear hK K)
     refine aa.one HX ?_
     ((iterate 4 revert K);refine aP eS ?_)
     exact az.mk (i+1) (by omega) (by omega) (by refine bl ?_ ai;exact eW)
    ·have e1:l.take i=l:=List.take_of_length_le (by replace h:=bG h;omega);simp only [e1]
     ((iterate 3 revert K);exact pR)
def mj (a b:Nat->Bool) (i q:Nat):Bool:=decide (q<i)&&(a q||b q)
theorem wT (a b:Nat->Bool) (i:Nat):(fun q=>if q=i then (a i||b i) else mj a b i q)=mj a b (i+1):=by
 funext q
 rw [mj,mj]
 split
 ·rename_i h;subst h;simp
 ·rename_i h
  congr 1;rw [decide_eq_decide];omega
theorem tQ (N:Nat) (a b:Nat->Bool) (hn:N<=1000):aq Tryz.prog 103 [.aB 1 (cV N a) N, .aB 1 (cV N b) N] (.aB 1 (cV N (fun q=>a q||b q)) N):=by
 refine gE Tryz.func103 Tryz.ntmps103 Tryz.results103 ?_
 have e0:List.replicate N [AV.v (.bool false)]=cV N (mj a b 0):=by rw [jD];exact lY fun q _=>by simp [mj]
 repeat (first|(with_reducible first|refine aw.up ?_|refine fun (K:AK) hK=> ?_|(refine hK _ ?_;clear hK K))|simp only [go_sem,e0]|with_reducible refine wA ?_|clear hK K)
 refine aV (ι:=Nat) 10 (fun i=>[(6, .v (.int .i64 i))]) (fun i=>[some ⟨4,1,true,cV N (mj a b i)⟩]) (fun i=>N - i) (fun i=>i<=N) 0 (by omega) ?_ ?_
 ·refine bl ?_ ai
  rfl
 ·intro i hi K hK
  (revert K;revert K;refine au ?_;intro K hK K hK K hK)
  refine bD.part (fun h=> ?_) (fun h=> ?_)
  ·have hlt:i<N:=by replace h:=pf h;omega
   have eW:=ak (k:=i) (by omega);have eA:=cZ (g:=a) hlt;have eB:=cZ (g:=b) hlt;have eR:=cZ (g:=mj a b i) hlt;have eS:=fun v=>qk (N:=N) (j:=i) (g:=mj a b i) (v:=v);have eU:=wT a b i;cases ha:a i
   all_goals
    simp only [ha,Bool.false_or,Bool.true_or] at eU
    repeat (first|(with_reducible first|refine aw.up ?_|refine fun (K:AK) hK=> ?_|(refine hK _ ?_;clear hK K))|simp only [go_sem,eW,eA,eB,ha,eR,eS,eU,Go.undef]|with_reducible refine wA ?_|clear hK K)
    exact az.mk (i+1) (by omega) (by omega) (by exact aR ai)
  ·have e1:i=N:=by replace h:=pf h;omega
   have eE:cV N (mj a b N)=cV N (fun q=>a q||b q):=lY fun q hq=>by simp [mj,hq]
   simp only [e1]
   ((iterate 3 revert K);refine au ?_)
   rw [eE]
   (refine gd.of 40 rfl ?_;simp only [go_sem])
def jt (N:Nat) (g:Nat->Bool):List Nat:=((List.range N).filter g).map (· + 1)
theorem Hv (N:Nat) (g:Nat->Bool):jt (N+1) g=jt N g++(if g N then [N+1] else []):=by
 rw [jt,List.range_succ,List.filter_append,List.map_append, <- jt]
 congr 1
 cases h:g N<;>simp [h]
theorem K8 (N:Nat) (g:Nat->Bool):(jt N g).length<=N:=by
 rw [jt,List.length_map];exact Nat.le_trans (List.length_filter_le _ _) (by simp)
theorem vq {N:Nat} {g:Nat->Bool} {p:Nat}:p∈jt N g↔1<=p∧p<=N∧g (p - 1)=true:=by
 rw [jt,List.mem_map]
 constructor
 ·rintro ⟨q,hq,rfl⟩;rw [List.mem_filter,List.mem_range] at hq;exact ⟨by omega,by omega,by simpa using hq.2⟩
 ·rintro ⟨h1,h2,h3⟩;exact ⟨p - 1,List.mem_filter.2 ⟨List.mem_range.2 (by omega),h3⟩,by omega⟩
theorem xN (N:Nat) (g:Nat->Bool):(jt N g).Pairwise (· < ·):=by
 rw [jt,List.pairwise_map];exact (List.pairwise_lt_range.filter _).imp (fun h=>by omega)
theorem Od (N:Nat) (g:Nat->Bool) (hn:N<=1000):aq Tryz.prog 104 [.aB 1 (cV N g) N] (.aB 1 (aJ (jt N g)) (jt N g).length):=by
 refine gE Tryz.func104 Tryz.ntmps104 Tryz.results104 ?_
 (refine au ?_;intro K hK)
 refine nB (ι:=Nat) 3 3 1 rfl (by omega) 5 (fun i=>[(3, .vec 0 (jt i g).length),(4, .v (.int .i64 i))]) (fun i=>[some ⟨3,1,true,aJ (jt i g)⟩]) (fun i=>N - i) (fun i=>i<=N) 0 (by omega) ?_ ?_
 ·refine fm ?_ ?_ ai
  ·exact ⟨rfl,rfl⟩
  ·rfl
 ·intro i hi K hK
  have eLn:(aJ (jt i g)).length=(jt i g).length:=by simp [aJ]
  have hsl:=K8 i g
  (revert K;revert K;refine au ?_;intro K hK K hK K hK)
  refine bD.part (fun h=> ?_) (fun h=> ?_)
  ·have hlt:i<N:=by replace h:=pf h;omega
   have eW:=ak (k:=i) (by omega);have eA:=cZ (g:=g) hlt;have eS:=Hv i g
   cases hg:g i
   ·simp only [hg,Bool.false_eq_true,if_false,List.append_nil] at eS
    repeat (first|(with_reducible first|refine aw.up ?_|refine fun (K:AK) hK=> ?_|(refine hK _ ?_;clear hK K))|simp only [go_sem,eW,eA,hg]|with_reducible refine wA ?_|clear hK K)
    refine az.mk (i+1) (by omega) (by omega) ?_;rw [eS];exact aR ai
   ·simp only [hg,if_true] at eS
    repeat (first|(with_reducible first|refine aw.up ?_|refine fun (K:AK) hK=> ?_|(refine hK _ ?_;clear hK K))|simp only [go_sem,eW,eA,hg,eLn]|with_reducible refine wA ?_|clear hK K)
    refine az.mk (i+1) (by omega) (by omega) ?_;rw [eS];refine mb ?_ ai;simp [aJ]
  ·have e1:i=N:=by replace h:=pf h;omega
   simp only [e1]
   ((iterate 3 revert K);refine au ?_)
   exact gd.vec (ob:=⟨3,1,true,aJ (jt N g)⟩) rfl rfl (by simp [aJ]) (bw _ (fun _=>rfl) _)
def mq (k:Nat) (x:Ex) (nl n:Nat):List AV:=[.vec (k+1) nl, .v (.slice none 0 0), .v (.slice none 0 0), .vec (k+2) n, .v (.bool (dy x)), .v (.int .i64 x.kind), .v (.string x.label), .aB 3 (x.kids.map aM) x.kids.length]
def cF (k:Nat) (x:Ex) (labs:List ByteArray) (n:Nat) (f:Nat->Nat->Bool):List (Option ab):=
 some ⟨120,8,false,[mq k x labs.length n]⟩ :: some ⟨9,1,true,labs.map encS⟩ :: bS (k+2) n n f
theorem G6 {N m i:Nat} {f:Nat->Nat->Bool} {b c x:Option ab} (h:i<m):(b :: c :: x :: aZ N f m)[kC 2 i]? = some (jO N (f i)):=by
 rw [show kC 2 i=kC 0 i+1+1 by unfold kC;omega,Yq,Yq];exact kW (k:=0) h
theorem G8 {N m i j:Nat} {f:Nat->Nat->Bool} {v:Bool} {b c x:Option ab} (h:i<m):(b :: c :: x :: aZ N f m).set (kC 2 i) (some ⟨4,1,true,(cV N (f i)).set j [.v (.bool v)]⟩)=b :: c :: x :: aZ N (lZ f i j v) m:=by
 rw [show kC 2 i=kC 0 i+1+1 by unfold kC;omega,List.set_cons_succ,List.set_cons_succ,mS h]
theorem bV (k:Nat) (x:Ex) (labs:List ByteArray) (n:Nat) (f:Nat->Nat->Bool):(cF k x labs n f).length=2 * n+3:=by
 rw [cF,List.length_cons,List.length_cons,gz]
theorem OC {k n nl m:Nat} {x:Ex} (h:k+3<=m):aN m (mq k x nl n)=true:=by
 have h1:k+1<m:=by omega
 have h2:k+2<m:=by omega
 simp [mq,aN,AV.wf,br,h1,h2]
theorem jw {m:Nat} {x:Ex} {labs:List ByteArray} {n:Nat} {f:Nat->Nat->Bool} (h:2 * n+3<=m): ∀ob,some ob∈cF 0 x labs n f->bj m ob.rows=true:=fun ob hb=>by
 rw [cF,Yj,Yj] at hb
 rcases hb with e|e|hb
 ·cases e;simp only [bj,OC (show 0+3<=m by omega),Bool.and_self]
 ·cases e;exact aO _ _
 ·rw [bS,Yj] at hb
  rcases hb with e|hb
  ·cases e;exact jQ (by omega)
  ·exact nk _ _ _ _ _ hb
theorem Tu {m:Nat} {x:Ex} {labs:List ByteArray} {n:Nat} {f:Nat->Nat->Bool} (h:2 * n+3<=m):ku m (cF 0 x labs n f) (cF 0 x labs n f):=by
 have:=l6 (n:=m) (a:=[]) (b:=[]) (l:=cF 0 x labs n f) (jw h) trivial
 simpa using this
def jm (f:Nat->Nat->Bool) (la fi:Nat->Bool) (i j p q:Nat):Bool:=f p q||(decide (p<i∨(p=i∧q<j))&&(la p&&fi q))
theorem Ql (f:Nat->Nat->Bool) (la fi:Nat->Bool):f=jm f la fi 0 0:=by funext p q;simp [jm]
theorem G0 {f:Nat->Nat->Bool} {la fi:Nat->Bool} {i j:Nat}:(if la i&&fi j then lZ (jm f la fi i j) i j true else jm f la fi i j)=jm f la fi i (j+1):=by
 funext p q
 split
 ·rename_i h;rw [lZ]
  split
  ·rename_i e;obtain ⟨rfl,rfl⟩:=e;simp [jm,h]
  ·rename_i e;rw [jm,jm];congr 2;rw [decide_eq_decide];omega
 ·rename_i h;rw [jm,jm]
  by_cases e:p=i∧q=j
  ·obtain ⟨rfl,rfl⟩:=e
   have h':(la p&&fi q)=false:=by simpa using h
   rw [h'];simp
  ·congr 2;rw [decide_eq_decide];omega
theorem GZ {f:Nat->Nat->Bool} {la fi:Nat->Bool} {N i:Nat}:aZ N (jm f la fi i N) N=aZ N (jm f la fi (i+1) 0) N:=fq fun p q hp hq=>by
 rw [jm,jm];congr 2;rw [decide_eq_decide];omega
theorem xV {t t':List AV} {y:jA} {x:Ex} {labs:List ByteArray} {n:Nat} {f f0:Nat->Nat->Bool} (h:dv (2 * n+3) t t'):Wk (cF 0 x labs n f0).length ⟨t,cF 0 x labs n f,y⟩ ⟨t',cF 0 x labs n f,y⟩:=
 ai (by rw [bV];exact h) (by rw [bV];exact Tu (WN _)) (by rw [bV,bV];exact WN _)
theorem Bc (x:Ex) (labs:List ByteArray) (n:Nat) (hn:n<=1000) (f:Nat->Nat->Bool) (la fi:Nat->Bool) :
  da Tryz.prog 134 [.ptr 0 0 8 0 0, .aB 1 (cV n la) n, .aB 1 (cV n fi) n] (cF 0 x labs n f) (.cI []) (cF 0 x labs n (fun p q=>f p q||(la p&&fi q))):=by
 have hd:decide (0<2 * n+3)=true:=decide_eq_true (by omega);refine gF Tryz.func134 Tryz.ntmps134 Tryz.results134 ?_;refine au ?_
 refine aV (ι:=Nat) 8 (fun i=>[(6, .v (.int .i64 i)),(7, .undef)]) (fun i=>cF 0 x labs n (jm f la fi i 0)) (fun i=>n - i) (fun i=>i<=n) 0 (by omega) ?_ ?_
 ·rw [<-Ql];refine xV ?_;simp only [go_sem,dv,true_or,or_true,true_and,and_true,hd];exact .inr rfl
 ·intro i hi K hK
  (revert K;refine au ?_;intro K hK K hK)
  refine bD.part (fun h=> ?_) (fun h=> ?_)
  ·have hlt:i<n:=by replace h:=pf h;omega
   have eW:=ak (k:=i) (by omega);have eO:=jL (k:=2) (N:=n) hlt;have eA:=cZ (g:=la) hlt
   (revert K;revert K;refine au ?_;intro K hK K hK)
   refine aV (ι:=Nat) 14 (fun j=>[(7, .v (.int .i64 j))]) (fun j=>cF 0 x labs n (jm f la fi i j)) (fun j=>n - j) (fun j=>j<=n) 0 (by omega) ?_ ?_
   ·refine xV ?_;simp only [go_sem,dv,true_or,or_true,true_and,and_true,hd];exact .inr rfl
   ·intro j hj K hK
    ((iterate 3 revert K);refine au ?_;iterate 4 intro K hK)
    refine bD.part (fun h=> ?_) (fun h=> ?_)
    ·have hjt:j<n:=by replace h:=pf h;omega
     have eV:=ak (k:=j) (by omega);have eB:=cZ (g:=fi) hjt;have eU:=G0 (f:=f) (la:=la) (fi:=fi) (i:=i) (j:=j)
     rcases Bool.eq_false_or_eq_true (la i&&fi j) with hq|hq
     ·rw [hq] at eU;simp only [if_true] at eU;obtain ⟨h1,h2⟩:=Bool.and_eq_true_iff.1 hq;have hO: ∀b c y,(b :: c :: y :: aZ n (jm f la fi i j) n)[kC 2 i]? = _:=fun b c y=>G6 (b:=b) (c:=c) (x:=y) hlt;have eR:=cZ (g:=jm f la fi i j i) hjt;have eS:=fun b c y v=>G8 (N:=n) (j:=j) (f:=jm f la fi i j) (v:=v) (b:=b) (c:=c) (x:=y) hlt;simp only [cF,bS,mq,Nat.zero_add]
      repeat (first|(with_reducible first|refine aw.up ?_|refine fun (K:AK) hK=> ?_|(refine hK _ ?_;clear hK K))|simp only [go_sem,eV,eA,eB,h1,h2,eO,hO,jO,eR,eS,eU,Go.undef]|with_reducible refine wA ?_|clear hK K)
      refine az.mk (j+1) (by omega) (by omega) (xV ?_);simp only [go_sem,dv,true_or,or_true,true_and,and_true,hd,aY,AV.wf]
     ·rw [hq] at eU;simp only [Bool.false_eq_true,if_false] at eU
      cases h1:la i
      ·repeat (first|(with_reducible first|refine aw.up ?_|refine fun (K:AK) hK=> ?_|(refine hK _ ?_;clear hK K))|simp only [go_sem,eV,eA,eB,h1,Go.undef]|with_reducible refine wA ?_|clear hK K)
       rw [eU];refine az.mk (j+1) (by omega) (by omega) (xV ?_);simp only [go_sem,dv,true_or,or_true,true_and,and_true,hd,aY,AV.wf]
      ·rw [h1,Bool.true_and] at hq
       repeat (first|(with_reducible first|refine aw.up ?_|refine fun (K:AK) hK=> ?_|(refine hK _ ?_;clear hK K))|simp only [go_sem,eV,eA,eB,h1,hq,Go.undef]|with_reducible refine wA ?_|clear hK K)
       rw [eU];refine az.mk (j+1) (by omega) (by omega) (xV ?_);simp only [go_sem,dv,true_or,or_true,true_and,and_true,hd,aY,AV.wf]
    ·have e1:j=n:=by replace h:=pf h;omega
     have eN:cF 0 x labs n (jm f la fi i n)=cF 0 x labs n (jm f la fi (i+1) 0):=by rw [cF,cF,bS,bS,GZ]
     simp only [e1];rw [eN]
     ((iterate 4 revert K);refine aP eW ?_)
     refine az.mk (i+1) (by omega) (by omega) (xV ?_);simp only [go_sem,dv,true_or,or_true,true_and,and_true,hd,aY,AV.wf]
  ·have e1:i=n:=by replace h:=pf h;omega
   have eN:cF 0 x labs n (jm f la fi n 0)=cF 0 x labs n (fun p q=>f p q||(la p&&fi q)):=by
    rw [cF,cF,bS,bS,fq (g:=jm f la fi n 0) (h:=fun p q=>f p q||(la p&&fi q)) (fun p q hp _=>by simp [jm,hp])]
   simp only [e1];rw [eN]
   (revert K;revert K;refine au ?_)
   refine ⟨⟨.inr ⟨rfl,rfl⟩,trivial⟩,Tu (by rw [bV];exact WN _),by rw [bV,bV];exact WN _⟩
end Go.Proofs.YtfflpdekojlnmaaGreatDoor
