/- texts of one claim, one behind the other. -/
import Derived.Test.YtlhhccmopfamhaaGreatDoorXDfaP
import Derived.Test.YtlhhccmopfamhaaGreatDoorXExprC
import Derived.Shelf.SlIter.Sorted
import Derived.Shelf.SortM.Plain
import Derived.Shelf.SortM.SortNone
import Derived.Test.YtlhhccmopfamhaaGreatDoorXRelG
import Derived.Shelf.Strconv.Itoa3
import Derived.Shelf.Strings.BuilderK
import Derived.Lib.AppendIntMem
set_option linter.unusedSimpArgs false
set_option linter.unusedVariables false
set_option maxRecDepth 100000
set_option maxHeartbeats 16000000
open Bool renaming and_self -> WT, not_eq_eq_eq_not -> W5, and_true -> Wg, true_and -> Wn, or_eq_true -> We, and_eq_true -> VS, eq_iff_iff -> Xt, eq_false_or_eq_true -> Xg
open List renaming map_cons -> WR, getElem?_append_left -> U5, getElem?_eq_some_iff -> U4, mem_singleton -> Xq, getElem_map -> XI, length_map -> VW, getElem?_eq_getElem -> Vi, foldl_cons -> WJ, getD_eq_getElem?_getD -> VX, cons_append -> WY, getElem?_map -> Vl, map_map -> XO, pairwise_map -> Xz, getElem?_cons_zero -> V7, replicate_succ -> WW, replicate_zero -> WX, mem_cons_of_mem -> V2, pairwise_iff_getElem -> XH, length_append -> U8, length_cons -> U9, length_nil -> U3, nil_append -> WZ, foldl_nil -> WK, take_succ_eq_append_getElem -> Xe, map_nil -> Xb, take_append_drop -> XR, drop_eq_getElem_cons -> Wv, getElem_mem -> WA, foldl_append -> XJ, mem_cons -> Wr, eq_nil_of_length_eq_zero -> VF, exists_mem_of_ne_nil -> XS, mem_cons_self -> V4, eq_nil_iff_forall_not_mem -> XT, getElem?_set_self -> Vq, getElem?_set_ne -> Vp, contains_iff_mem -> Xa, mem_take_iff_getElem -> XU, set_cons_zero -> WO, set_cons_succ -> WN, take_zero -> XV, map_append -> XK, push_toArray -> XW, drop_succ_cons -> XX, drop_zero -> XY, take_succ_cons -> XZ, length_replicate -> X0, length_singleton -> XM
open Option renaming getD_some -> XN, map_eq_some_iff -> VM, map_some -> VB
open Option.some renaming injEq -> Ve
open Classical renaming byContradiction -> XP
open List.cons renaming injEq -> Xy
open Nat renaming lt_or_ge -> U6, lt_add_one -> XB, zero_lt_one -> XE, zero_le -> Va, zero_lt_succ -> X1
open BitVec renaming getLsbD_or -> XQ, getLsbD_and -> Xk
open Int renaming ofNat_lt -> W8, natCast_inj -> W7, ofNat_le -> W9
namespace Go.Proofs.YtlhhccmopfamhaaGreatDoor
open Go.RowKit
section
def look (row:bn) (l:ByteArray):Option Nat:=(row.find? (fun p=>dD l p.1)).map Prod.snd
def gz (rows:List bn) (s:Nat):List ByteArray->Option Nat
 | []=>some s
 | l :: w=>match look (rows.getD s []) l with
  | some t=>gz rows t w
  | none=>none
def c6 (rows:List bn) (ends:List Bool) (s:Nat) (w:List ByteArray):Bool:=match gz rows s w with
 | some t=>ends.getD t false
 | none=>false
theorem pe {row:bn} {l:ByteArray}:look row l=none↔l∉row.map Prod.fst:=by
 rw [look,Option.map_eq_none_iff,List.find?_eq_none]
 constructor
 ·intro h hm;obtain ⟨p,hp,rfl⟩:=List.mem_map.1 hm;exact h p hp (mb.2 rfl)
 ·intro h p hp he;rw [mb] at he;subst he;exact h (List.mem_map_of_mem hp)
theorem rQ {row:bn} {l:ByteArray} {t:Nat} (h:look row l=some t):(l,t)∈row:=by
 rw [look,Option.map_eq_some_iff] at h;obtain ⟨p,h1,rfl⟩:=h;have h2:=List.find?_some h1;rw [mb] at h2;subst h2;exact List.mem_of_find?_eq_some h1
theorem jm {row r2:bn} {l:ByteArray}:look (row++r2) l=(look row l).or (look r2 l):=by
 simp only [look,List.find?_append];cases row.find? (fun p=>dD l p.1)<;>rfl
theorem jn {m l:ByteArray} {t:Nat}:look [(m,t)] l=if l=m then some t else none:=by
 by_cases h:l=m
 ·subst h;simp [look,mb.2 rfl]
 ·have:dD l m=false:=by
   cases hh:dD l m
   ·rfl
   ·exact absurd (mb.1 hh) h
  simp [look,this,h]
theorem Ko {row:bn} (hn:(row.map Prod.fst).Nodup) {l:ByteArray} {t:Nat} (h:(l,t)∈row):look row l=some t:=by
 induction row with
 | nil=>simp at h
 | cons a row ih=>
  rw [WR,List.nodup_cons] at hn
  rcases List.mem_cons.1 h with rfl|h
  ·simp [look,mb.2 rfl]
  ·have hne:dD l a.1=false:=by
    cases hh:dD l a.1
    ·rfl
    ·rw [mb] at hh;subst hh;exact absurd (List.mem_map_of_mem h) hn.1
   have:=ih hn.2 h
   simpa [look,hne] using this
section
variable (cA:List Nat->ByteArray->List Nat) (em:Bool) (la:List Nat)
def FD (af:List ByteArray) (all:List (List Nat)) (cur:List Nat) (row:bn):Prop:=
 ∀l,(l∈af->cA cur l≠[]-> ∃k,look row l=some k∧all[k]? = some (cA cur l))∧((l∉af∨cA cur l=[])->look row l=none)
theorem FD.mono {af:List ByteArray} {all t:List (List Nat)} {cur:List Nat} {row:bn} (h:FD cA af all cur row):FD cA af (all++t) cur row:=fun l=>
 ⟨fun h1 h2=>by
  obtain ⟨k,k1,k2⟩:=(h l).1 h1 h2
  exact ⟨k,k1,by rw [U5 (U4.1 k2).1];exact k2⟩,(h l).2⟩
theorem Ij (cur:List Nat) {all:List (List Nat)}: ∀af:List ByteArray,af.Nodup->FD cA af (gE cA cur all af).1 cur (gE cA cur all af).2:=by
 refine kb (fun _ l=>⟨fun h=>by simp at h,fun _=>by simp [gE,look]⟩) ?_;intro af m ih hn l;have hn':=List.nodup_append.1 hn;have ih:=ih hn'.1;have hm:m∉af:=fun h=>hn'.2.2 m h m (by simp) rfl;rw [lR,Cx]
 by_cases he:cA cur m=[]
 ·rw [if_pos he]
  refine ⟨fun h1 h2=> ?_,fun h1=> ?_⟩
  ·rcases List.mem_append.1 h1 with h1|h1
   ·exact (ih l).1 h1 h2
   ·simp only [Xq] at h1;subst h1;exact absurd he h2
  ·by_cases hl:cA cur l=[]
   ·exact (ih l).2 (.inr hl)
   ·rcases h1 with h1|h1
    ·exact (ih l).2 (.inl (fun q=>h1 (List.mem_append_left _ q)))
    ·exact absurd h1 hl
 ·rw [if_neg he]
  have nl:l≠m->(l∈af++[m]↔l∈af):=fun h=>by simp [h]
  split
  ·rename_i k hk;obtain ⟨hk1,hk2⟩:=se hk;rw [XI] at hk2;have hk3:=GV hk2;rw [VW] at hk1
   refine ⟨fun h1 h2=> ?_,fun h1=> ?_⟩
   ·rw [jm,jn]
    by_cases hlm:l=m
    ·subst hlm;exact ⟨k,by rw [(ih l).2 (.inl hm),if_pos rfl];rfl,by rw [Vi hk1,hk3]⟩
    ·obtain ⟨j,j1,j2⟩:=(ih l).1 ((nl hlm).1 h1) h2;exact ⟨j,by rw [j1];rfl,j2⟩
   ·rw [jm,jn]
    have hlm:l≠m:=fun e=>by subst e;rcases h1 with h1|h1<;>simp_all
    rw [if_neg hlm,(ih l).2 (h1.imp (fun q r=>q ((nl hlm).2 r)) id)];rfl
  ·refine ⟨fun h1 h2=> ?_,fun h1=> ?_⟩
   ·rw [jm,jn]
    by_cases hlm:l=m
    ·subst hlm;exact ⟨_,by rw [(ih l).2 (.inl hm),if_pos rfl];rfl,by rw [List.getElem?_append_right (Nat.le_refl _)];simp⟩
    ·obtain ⟨j,j1,j2⟩:=(ih l).1 ((nl hlm).1 h1) h2;exact ⟨j,by rw [j1];rfl,by rw [U5 (U4.1 j2).1];exact j2⟩
   ·rw [jm,jn]
    have hlm:l≠m:=fun e=>by subst e;rcases h1 with h1|h1<;>simp_all
    rw [if_neg hlm,(ih l).2 (h1.imp (fun q r=>q ((nl hlm).2 r)) id)];rfl
structure SW (af:List ByteArray) (st:mX):Prop where
 zero:st.all[0]? = some [0]
 row: ∀i,i<st.rows.length->FD cA af st.all (st.all.getD i []) (st.rows.getD i [])
 DY: ∀i,i<st.rows.length->st.ends.getD i false=((i==0&&em)||(st.all.getD i []).any (fun p=>la.contains p))
theorem K1 {af:List ByteArray} (hn:af.Nodup) {st:mX} (ho:Dl af st) (h:SW cA em la af st) (h1:st.rows.length<st.all.length):SW cA em la af (da cA em la af st):=by
 obtain ⟨_,_,_,_,_,t,k6⟩:=wj cA (cur:=eb st) ho.nd af;have hr:=Ij cA (eb st) (all:=st.all) af hn
 have hg: ∀i,i<st.all.length->(da cA em la af st).all.getD i []=st.all.getD i []:=fun i hi=>by simp only [da,k6];exact cJ hi
 refine ⟨?_,fun i hi=> ?_,fun i hi=> ?_⟩
 ·simp only [da,k6];rw [U5 (by omega)];exact h.zero
 ·have hi':i<st.rows.length+1:=by simpa [da] using hi
  rw [hg i (by omega)]
  rcases Nat.lt_or_ge i st.rows.length with q|q
  ·simp only [da,k6,fp q];exact (h.row i q).mono
  ·obtain rfl:i=st.rows.length:=by omega
   simp only [da,dN];exact hr
 ·have hi':i<st.rows.length+1:=by simpa [da] using hi
  rw [hg i (by omega)]
  rcases Nat.lt_or_ge i st.rows.length with q|q
  ·simp only [da];rw [fp (by rw [ho.ends];exact q)];exact h.DY i q
  ·obtain rfl:i=st.rows.length:=by omega
   simp only [da];rw [<-ho.ends,dN,yL,eb,ho.ends]
theorem Il {af:List ByteArray} (hn:af.Nodup): ∀(f:Nat) {st st':mX},Dl af st->SW cA em la af st->nT cA em la af f st=some st'->SW cA em la af st'
 | 0,st,st',_,h,e=>by simp only [nT,Ve] at e;subst e;exact h
 | f+1,st,st',ho,h,e=>by
  rw [nT] at e
  split at e
  ·rename_i h1
   split at e
   ·cases e
   ·rename_i h2;exact Il hn f (su cA em la ho h1 h2) (K1 cA em la hn ho h h1) e
  ·cases e;exact h
theorem CD {af:List ByteArray} (hn:af.Nodup) {st:mX} (h:sx cA em la af=some st):Dl af st∧st.rows.length=st.all.length∧SW cA em la af st:=by
 have ho:=Cy cA em la 257 (Ni af) (by simp [s0]) h;exact ⟨ho.1,ho.2,Il cA em la hn 257 (Ni af) ⟨rfl,fun i hi=>by simp [s0] at hi,fun i hi=>by simp [s0] at hi⟩ h⟩
def Made (a:List Nat):Prop:=a≠[]∧(a=[0]∨ ∃cur l,a=cA cur l)
theorem uB {cur:List Nat} {all:List (List Nat)} (h: ∀a∈all,Made cA a): ∀af:List ByteArray, ∀a∈(gE cA cur all af).1,Made cA a:=by
 refine kb h ?_;intro af l ih;rw [lR,Cx]
 split
 ·exact ih
 ·rename_i hne
  split
  ·exact ih
  ·intro a ha
   rcases List.mem_append.1 ha with ha|ha
   ·exact ih a ha
   ·simp only [Xq] at ha;subst ha;exact ⟨hne, .inr ⟨_,_,rfl⟩⟩
theorem uC {af:List ByteArray}: ∀(f:Nat) {st st':mX},(∀a∈st.all,Made cA a)->nT cA em la af f st=some st'-> ∀a∈st'.all,Made cA a
 | 0,st,st',h,e=>by simp only [nT,Ve] at e;subst e;exact h
 | f+1,st,st',h,e=>by
  rw [nT] at e
  split at e
  ·split at e
   ·cases e
   ·exact uC f (uB cA h af) e
  ·cases e;exact h
theorem EY {af:List ByteArray} {st:mX} (h:sx cA em la af=some st): ∀a∈st.all,Made cA a:=uC cA em la 257 (fun a ha=>by
 simp only [s0,Xq] at ha;subst ha;exact ⟨by simp, .inl rfl⟩) h
variable {cA em la}
theorem xP (ha: ∀l,cA [] l=[]): ∀w:List ByteArray,w.foldl cA []=[]
 | []=>rfl
 | l :: w=>by rw [WJ,ha,xP ha w]
theorem sy {af:List ByteArray} {st:mX} (hl:st.rows.length=st.all.length) (hw:SW cA em la af st) (ha: ∀l,cA [] l=[]) (hx: ∀cur l,l∉af->cA cur l=[]): ∀(w:List ByteArray) (i:Nat) (cur:List Nat),st.all[i]? = some cur->cur≠[] ->
  (w.foldl cA cur=[]->gz st.rows i w=none)∧(w.foldl cA cur≠[]-> ∃k,gz st.rows i w=some k∧st.all[k]? = some (w.foldl cA cur))
 | [],i,cur,hi,hc=>⟨fun h=>absurd h hc,fun _=>⟨i,rfl,hi⟩⟩
 | l :: w,i,cur,hi,hc=>by
  have hlt:=(U4.1 hi).1;have hr:=hw.row i (by omega) l;rw [VX (l:=st.all),hi,XN] at hr;rw [gz,WJ]
  by_cases he:cA cur l=[]
  ·rw [hr.2 (.inr he),he,xP ha];exact ⟨fun _=>rfl,fun h=>absurd rfl h⟩
  ·have hm:l∈af:=Classical.byContradiction fun h=>he (hx cur l h);obtain ⟨k,k1,k2⟩:=hr.1 hm he;rw [k1];exact sy hl hw ha hx w k _ k2 he
theorem EX {af:List ByteArray} {st:mX} (hl:st.rows.length=st.all.length) (hw:SW cA em la af st) (ha: ∀l,cA [] l=[]) (hx: ∀cur l,l∉af->cA cur l=[]) (w:List ByteArray) {i:Nat} {cur:List Nat} (hi:st.all[i]? = some cur) (hc:cur≠[]) {q:Nat} (hq:q∈w.foldl cA cur) (hq2:q∈la):c6 st.rows st.ends i w=true:=by
 obtain ⟨k,k1,k2⟩:=(sy hl hw ha hx w i cur hi hc).2 (List.ne_nil_of_mem hq);rw [c6,k1];simp only;rw [hw.DY k (by rw [hl];exact (U4.1 k2).1),VX,k2,XN]
 have:(w.foldl cA cur).any (fun p=>la.contains p)=true:=List.any_eq_true.2 ⟨q,hq,by simpa using hq2⟩
 rw [this,Bool.or_true]
theorem Bl {af:List ByteArray} {st:mX} (hl:st.rows.length=st.all.length) (hw:SW cA em la af st) (ha: ∀l,cA [] l=[]) (hx: ∀cur l,l∉af->cA cur l=[]) (h0: ∀cur l,0∉cA cur l) (hl0:0∉la) (w:List ByteArray) :
  c6 st.rows st.ends 0 w=((w.length==0&&em)||(w.foldl cA [0]).any (fun p=>la.contains p)):=by
 obtain ⟨h1,h2⟩:=sy hl hw ha hx w 0 [0] hw.zero (by simp)
 by_cases he:w.foldl cA [0]=[]
 ·rw [c6,h1 he,he]
  cases w with
  | nil=>simp at he
  | cons l w=>rfl
 ·obtain ⟨k,k1,k2⟩:=h2 he;rw [c6,k1];simp only;have hk:=(U4.1 k2).1;rw [hw.DY k (by omega),VX,k2,XN]
  cases w with
  | nil=>
   simp only [gz,Ve] at k1;subst k1
   rfl
  | cons l w=>
   have hne:k≠0:=fun e=>by
    subst e
    have:=hw.zero.symm.trans k2
    simp only [Ve] at this
    have hh: ∀(w:List ByteArray) (cur:List Nat),0∉cur->0∉w.foldl cA cur:=fun w=>by
     induction w with
     | nil=>exact fun cur h=>h
     | cons m w ih=>exact fun cur h=>ih _ (h0 _ _)
    exact hh w (cA [0] l) (h0 _ _) (by rw [WJ] at this;rw [<-this];simp)
   have:(k==0)=false:=by simpa using hne
   rw [this];rfl
end
def yg:Go.Shelf.Ren:=⟨fun|7=>159|10=>201|n=>n,fun|23=>164|26=>9|3=>3|28=>244|0=>0|27=>243|33=>157|4=>4|n=>n,fun n=>n⟩
theorem uc:SlLaysZ.n7 Tryz.prog yg:={
 mixed:=by kernel_rfl
 f7:=⟨Tryz.f159.name,by decide,Tryz.func159⟩
 f10:=⟨Tryz.f201.name,by decide,Tryz.func201⟩
 t0:=by kernel_rfl
 a0:=fun w=>by kernel_rfl
 z0:=fun w=>by kernel_rfl
 v0:=fun w=>by kernel_rfl
 t4:=by kernel_rfl
 a4:=fun w=>by kernel_rfl
 z4:=fun w=>by kernel_rfl
 v4:=fun w=>by kernel_rfl
 t23:=by kernel_rfl
 a23:=fun w=>by kernel_rfl
 z23:=fun w=>by kernel_rfl
 v23:=fun w=>by kernel_rfl
 t26:=by kernel_rfl
 a26:=fun w=>by kernel_rfl
 z26:=fun w=>by kernel_rfl
 v26:=fun w=>by kernel_rfl
 t27:=by kernel_rfl
 a27:=fun w=>by kernel_rfl
 z27:=fun w=>by kernel_rfl
 v27:=fun w=>by kernel_rfl
 t28:=by kernel_rfl
 a28:=fun w=>by kernel_rfl
 z28:=fun w=>by kernel_rfl
 v28:=fun w=>by kernel_rfl
 t33:=by kernel_rfl
 a33:=fun w=>by kernel_rfl
 z33:=fun w=>by kernel_rfl
 v33:=fun w=>by kernel_rfl }
def sC:Go.Shelf.Ren:=⟨fun|6=>158|8=>200|9=>115|11=>220|13=>135|12=>148|23=>171|24=>172|14=>189|15=>190|16=>191|17=>192|18=>193|19=>194|20=>195|21=>196|22=>197|25=>215|26=>204|27=>205|28=>216|29=>217|30=>96|31=>224|n=>n,fun|26=>9|28=>244|24=>55|0=>0|3=>3|37=>212|48=>184|50=>256|4=>4|40=>249|39=>248|45=>105|5=>5|9=>9|51=>279|55=>283|57=>296|58=>297|33=>157|n=>n,fun n=>n⟩
theorem yQ:SlLaysZ.n6 Tryz.prog sC:={
 mixed:=by kernel_rfl
 f6:=⟨Tryz.f158.name,by decide,Tryz.func158⟩
 f8:=⟨Tryz.f200.name,by decide,Tryz.func200⟩
 f11:=⟨Tryz.f220.name,by decide,Tryz.func220⟩
 t0:=by kernel_rfl
 a0:=fun w=>by kernel_rfl
 z0:=fun w=>by kernel_rfl
 v0:=fun w=>by kernel_rfl
 t24:=by kernel_rfl
 a24:=fun w=>by kernel_rfl
 z24:=fun w=>by kernel_rfl
 v24:=fun w=>by kernel_rfl
 t26:=by kernel_rfl
 a26:=fun w=>by kernel_rfl
 z26:=fun w=>by kernel_rfl
 v26:=fun w=>by kernel_rfl
 t28:=by kernel_rfl
 a28:=fun w=>by kernel_rfl
 z28:=fun w=>by kernel_rfl
 v28:=fun w=>by kernel_rfl
 i26:=by kernel_rfl }
def Iu:Go.Shelf.Ren:=⟨fun|6=>115|8=>135|9=>148|19=>171|20=>172|21=>189|22=>190|23=>191|24=>192|25=>193|26=>194|27=>195|28=>196|29=>197|36=>215|31=>204|32=>205|37=>216|38=>217|39=>96|41=>224|n=>n,fun|27=>55|29=>9|3=>3|32=>212|26=>55|0=>0|44=>184|46=>256|4=>4|36=>249|35=>248|41=>105|5=>5|9=>9|53=>279|57=>283|63=>296|64=>297|n=>n,fun n=>n⟩
theorem lS:SlLaysM.n6 Tryz.prog Iu:={
 mixed:=by kernel_rfl
 f6:=⟨Tryz.f115.name,by decide,Tryz.func115⟩
 f8:=Tryz.func135
 f9:=⟨Tryz.f148.name,by decide,Tryz.func148⟩
 f19:=Tryz.func171
 f20:=Tryz.func172
 f21:=⟨Tryz.f189.name,by decide,Tryz.func189⟩
 f22:=⟨Tryz.f190.name,by decide,Tryz.func190⟩
 f23:=⟨Tryz.f191.name,by decide,Tryz.func191⟩
 f24:=⟨Tryz.f192.name,by decide,Tryz.func192⟩
 f25:=⟨Tryz.f193.name,by decide,Tryz.func193⟩
 f26:=⟨Tryz.f194.name,by decide,Tryz.func194⟩
 f27:=⟨Tryz.f195.name,by decide,Tryz.func195⟩
 f28:=⟨Tryz.f196.name,by decide,Tryz.func196⟩
 f29:=⟨Tryz.f197.name,by decide,Tryz.func197⟩
 f31:=Tryz.func204
 f32:=Tryz.func205
 f36:=⟨Tryz.f215.name,by decide,Tryz.func215⟩
 f37:=⟨Tryz.f216.name,by decide,Tryz.func216⟩
 f38:=⟨Tryz.f217.name,by decide,Tryz.func217⟩
 f39:=⟨Tryz.f96.name,by decide,Tryz.func96⟩
 f41:=⟨Tryz.f224.name,by decide,Tryz.func224⟩
 t0:=by kernel_rfl
 a0:=fun w=>by kernel_rfl
 z0:=fun w=>by kernel_rfl
 v0:=fun w=>by kernel_rfl
 t3:=by kernel_rfl
 a3:=fun w=>by kernel_rfl
 z3:=fun w=>by kernel_rfl
 v3:=fun w=>by kernel_rfl
 t4:=by kernel_rfl
 a4:=fun w=>by kernel_rfl
 z4:=fun w=>by kernel_rfl
 v4:=fun w=>by kernel_rfl
 t5:=by kernel_rfl
 a5:=fun w=>by kernel_rfl
 z5:=fun w=>by kernel_rfl
 v5:=fun w=>by kernel_rfl
 t9:=by kernel_rfl
 a9:=fun w=>by kernel_rfl
 z9:=fun w=>by kernel_rfl
 v9:=fun w=>by kernel_rfl
 t26:=by kernel_rfl
 a26:=fun w=>by kernel_rfl
 z26:=fun w=>by kernel_rfl
 v26:=fun w=>by kernel_rfl
 t27:=by kernel_rfl
 a27:=fun w=>by kernel_rfl
 z27:=fun w=>by kernel_rfl
 v27:=fun w=>by kernel_rfl
 t29:=by kernel_rfl
 a29:=fun w=>by kernel_rfl
 z29:=fun w=>by kernel_rfl
 v29:=fun w=>by kernel_rfl
 t32:=by kernel_rfl
 a32:=fun w=>by kernel_rfl
 z32:=fun w=>by kernel_rfl
 v32:=fun w=>by kernel_rfl
 t35:=by kernel_rfl
 a35:=fun w=>by kernel_rfl
 z35:=fun w=>by kernel_rfl
 v35:=fun w=>by kernel_rfl
 t36:=by kernel_rfl
 a36:=fun w=>by kernel_rfl
 z36:=fun w=>by kernel_rfl
 v36:=fun w=>by kernel_rfl
 t41:=by kernel_rfl
 a41:=fun w=>by kernel_rfl
 z41:=fun w=>by kernel_rfl
 v41:=fun w=>by kernel_rfl
 t44:=by kernel_rfl
 a44:=fun w=>by kernel_rfl
 z44:=fun w=>by kernel_rfl
 v44:=fun w=>by kernel_rfl
 t46:=by kernel_rfl
 a46:=fun w=>by kernel_rfl
 z46:=fun w=>by kernel_rfl
 v46:=fun w=>by kernel_rfl
 t53:=by kernel_rfl
 a53:=fun w=>by kernel_rfl
 z53:=fun w=>by kernel_rfl
 v53:=fun w=>by kernel_rfl
 t57:=by kernel_rfl
 a57:=fun w=>by kernel_rfl
 z57:=fun w=>by kernel_rfl
 v57:=fun w=>by kernel_rfl
 t63:=by kernel_rfl
 a63:=fun w=>by kernel_rfl
 z63:=fun w=>by kernel_rfl
 v63:=fun w=>by kernel_rfl
 t64:=by kernel_rfl
 a64:=fun w=>by kernel_rfl
 z64:=fun w=>by kernel_rfl
 v64:=fun w=>by kernel_rfl }
def cz (r:bn):List (List AV):=r.map (fun p=>[.v (.string p.1), .v (.int .i64 (p.2:Nat))])
theorem He (r:bn):(cz r).length=r.length:=by simp [cz]
@[go_sem] theorem qz (n:Nat) (r:bn):bZ n (cz r)=true:=aZ _ (fun p=>rfl) _
theorem u7 (s:ByteArray): ∀r:bn,ky .string (.string s) (cz r)=some ((look r s).map (fun n=> .v (.int .i64 (n:Nat))))
 | []=>rfl
 | p :: l=>by
  have ih:=u7 s l;simp only [cz,WR,ky];rw [if_pos (show cC .string (.string p.1)=true from rfl)]
  by_cases h:dh (.string s) (.string p.1)=true
  ·have h':dD s p.1=true:=h;rw [if_pos h];simp [look,h']
  ·have h':dD s p.1=false:=by
    cases hh:dD s p.1
    ·rfl
    ·exact absurd hh h
   rw [if_neg h];simp only [cz] at ih;rw [ih];simp [look,h']
theorem oH (s:ByteArray) (n:Nat): ∀r:bn,look r s=none->jF .string (.string s) (.v (.int .i64 (n:Nat))) (cz r)=some (cz (r++[(s,n)]))
 | [],_=>rfl
 | p :: l,hn=>by
  simp only [cz,WR,jF,WY];rw [if_pos (show cC .string (.string p.1)=true from rfl)]
  by_cases h:dh (.string s) (.string p.1)=true
  ·have h':dD s p.1=true:=h;simp [look,h'] at hn
  ·have h':dD s p.1=false:=by
    cases hh:dD s p.1
    ·rfl
    ·exact absurd hh h
   have ih:=oH s n l (by simpa [look,h'] using hn);rw [if_neg h];simp only [cz] at ih;rw [ih];rfl
@[go_sem] theorem oh (n:Nat) (rows:List bn):bZ n (rows.map (fun r=>[AV.mp (cz r)]))=true:=aZ _ (fun r=>by simp only [bp,AV.wf,qz,WT]) _
@[go_sem] theorem oc (n:Nat) (ends:List Bool):bZ n (ends.map (fun b=>[AV.v (.bool b)]))=true:=aZ _ (fun r=>rfl) _
def gV (rows:List bn) (ends:List Bool):List AV:=[.aH 1 (rows.map (fun r=>[.mp (cz r)])) rows.length, .aH 1 (ends.map (fun b=>[.v (.bool b)])) ends.length]
section
open Go.Maps Go.Sort Go.WideElems
theorem Qt:Tryz.prog.underlying 9=some .string:=by kernel_rfl
def FN (_:Value):Option (DataW Unit×List MemPlace):=some (.lit (.bool true),[])
def pK (r:bn):List (List UInt8):=r.map (fun p=>p.1.data.toList)
theorem Nb {e:MapEntry} {s:ByteArray} (hk:e.key = .string s) (hs:s.size<=maxLen):rd Tryz.prog 9 FN e=some (.string s.data.toList, .lit (.bool true)):=by
 unfold WideElems.rd;rw [hk,Go.WideMaps.keyOf_string_mk Qt hs];rfl
theorem Kt {D:Nat->Prop} {nu:Nat->Nat->Value} {o:List (Option aa)} {w:World} {r:bn} {x:Value} (h:RA D nu o w (.mp (cz r)) x) (hs: ∀p∈r,p.1.size<=maxLen) (hn:(r.map Prod.fst).Nodup) (hl:r.length<=1000000) :
  ∃b D0,x = .map (some b)∧b<w.heap.size∧w.ownsMap Tryz.prog 9 FN b r.length D0∧(strKeys D0).Perm (pK r)∧Maps.size D0=r.length:=by
 cases h with
 | mp _ b es cl h1 h2 h3 h4 h5 h6 h7=>
 have hlen:es.size=r.length:=by rw [h3,He]
 have hget: ∀(i:Nat) (hi:i<es.toList.length),es[i]? = some es.toList[i]:=fun i hi=>by rw [<-Array.getElem?_toList];exact Vi hi
 have hk: ∀(i:Nat) (hi:i<es.toList.length) (hi':i<r.length),(es.toList[i]).key=Value.string r[i].1:=fun i hi hi'=>by
  have hrow:(cz r)[i]? = some [.v (.string r[i].1), .v (.int .i64 (r[i].2:Nat))]:=by rw [cz,Vl,Vi hi'];rfl
  exact (h7 i 0 _ _ _ hrow rfl (hget i hi)).plain
 have hkeys:es.toList.map (fun e=>e.key)=r.map (fun p=>Value.string p.1):=List.ext_getElem (by simp [hlen]) fun i k1 k2=>by
  rw [XI,XI];exact hk i (by simpa using k1) (by simpa using k2)
 have hrd: ∀(i:Nat) (hi:i<es.toList.length) (hi':i<r.length),rd Tryz.prog 9 FN es.toList[i]=some (.string r[i].1.data.toList, .lit (.bool true)):=fun i hi hi'=>Nb (hk i hi hi') (hs _ (List.getElem_mem hi'))
 refine ⟨b,_,rfl,h1.1,⟨es,cl,h2,⟨by unfold maxLen;omega,⟨?_, ?_, ?_⟩, ?_⟩,by omega,rfl⟩, ?_, ?_⟩
 ·intro e he;obtain ⟨i,hi,rfl⟩:=List.getElem_of_mem he;exact h5 i _ (hget i hi)
 ·rw [List.Nodup,List.pairwise_iff_getElem];intro i j hi hj hij;rw [XI,XI]
  have:=h6 i j _ _ (hget i (by simpa using hi)) (hget j (by simpa using hj)) hij
  omega
 ·have e:es.toList.map (fun x=>x.key)=(r.map Prod.fst).map Value.string:=by rw [hkeys,XO];rfl
  rw [e,List.Nodup,Xz];exact hn.imp fun hne e=>hne (by cases e;rfl)
 ·intro e he;obtain ⟨i,hi,rfl⟩:=List.getElem_of_mem he;exact ⟨_,hrd i hi (by simpa [hlen] using hi)⟩
 ·rw [strKeys];refine ((WideShapes.sorted_perm _).map _).trans (List.Perm.of_eq ?_);rw [XO];refine List.ext_getElem (by simp [pK,hlen]) fun i k1 k2=> ?_
  have hi:i<es.toList.length:=by simpa using k1
  simp only [pK,XI,Function.comp];rw [rg_of (hrd i hi (by simpa [hlen] using hi))];rfl
 ·show (List.foldr DataW.insert [] _).length=_;rw [(WideShapes.sorted_perm _).length_eq,VW];simp [hlen]
def mZ (l:List ByteArray):Prop:=l.Pairwise (fun a b=>a.data.toList<b.data.toList)
theorem Ej {r:bn} (h:mZ (r.map Prod.fst)):(pK r).mergeSort (fun x y=>decide (x<=y))=pK r:=by
 refine List.mergeSort_of_pairwise ?_;rw [pK,Xz];rw [mZ,Xz] at h;exact h.imp fun hh=>decide_eq_true (List.le_of_lt hh)
theorem qv {l:List ByteArray} (h:mZ l):l.Nodup:=h.imp fun {a b} hh e=>by subst e;exact absurd hh (List.lt_irrefl _)
end
def Pg (_:Nat->Prop) (_:World) (x:Value):Prop:= ∃b,x = .pointer (some ⟨b,0,none⟩)
def yf (r:bn):AV:= .fn 201 [] [.gu Pg (.vp [.mp (cz r)])]
@[go_sem] theorem zh (n:Nat) (r:bn):(yf r).wf n=true:=by simp only [yf,AV.wf,bp,qz,WT]
theorem Kj (r:bn):ah Tryz.prog 159 [.mp (cz r)] (yf r):=by
 refine ⟨⟨by simp only [bp,AV.wf,qz,WT],zh 0 r⟩,by kernel_rfl,fun D nu w vargs hro hra=> ?_⟩;obtain ⟨x,rfl,hx⟩:=di hra
 obtain ⟨b,rfl⟩: ∃b,x = .map (some b):=by cases hx;exact ⟨_,rfl⟩
 refine ((callsIn_wide (n:=5)).1 (AnyZ.keys_in uc Fence.wide 5 trivial rfl (some b) w)).mono ?_;rintro e w' ⟨rfl,rfl⟩;have hb:Below w.heap.size w (w.alloc (.cells #[.map (some b)] 164)):=(Below.refl _ _).alloc (Nat.le_refl _) _;have hz:Fz D nu [] (w.alloc (.cells #[.map (some b)] 164)) w.heap.size:=⟨by simp,bd _ _,hro.up _ (Nat.le_refl _)⟩;refine ⟨_,nu,[],yf r,rfl,aw hb,hro.below hb, ?_,rfl,rfl⟩;refine .fn _ _ _ _ _ rfl rfl (fun i c x h=>by simp at h) (fun i c y h1 h2=> ?_)
 cases i with
 | succ i=>simp at h1
 | zero=>
  simp only [V7,Ve] at h1;simp at h2;subst h1;subst h2
  refine .gu _ _ _ (fun _=>False) rfl (fun b h=>h.elim) (fun b h=>h.elim) (fun w' _=>⟨_,rfl⟩) (.vp _ _ 0 (fun _=> .map (some b)) hz (fun j c hc=> ?_) (fun j c hc=> ?_) (fun j c hc=>rfl))
  ·cases j with
   | succ j=>simp at hc
   | zero=>
    have h:=dG w (.cells #[.map (some b)] 164);exact (qY h 0).trans rfl
  ·cases j with
   | succ j=>simp at hc
   | zero=>
    simp only [V7,Ve] at hc;subst hc;exact hx.mono (aw hb) (fun _ _ h=>h)
theorem Nq (m:Nat):AnyZ.SortsIn Tryz.prog sC Fence.wide m:=
 ⟨fun blk off cap ss W hH hblk hsz=>callsIn_wide.2 (AnyM.slices_Sort_string lS blk off cap ss W hH hblk hsz),
  fun p cap W=>callsIn_wide.2 (AnyM.slices_Sort_string_none lS p cap W)⟩
theorem EZ (r:bn) (hs: ∀p∈r,p.1.size<=maxLen) (hr:mZ (r.map Prod.fst)) (hl:r.length<=1000000):ah Tryz.prog 158 [yf r] (cg (r.map Prod.fst)):=
 .Cn (by kernel_rfl) (by simp only [bp,zh,WT]) (fun D nu w vargs hra=>by
  obtain ⟨x,rfl,hx⟩:=di hra
  cases hx with
  | fn _ _ _ fi ca h1 h2 h3 h4=>
  obtain ⟨y,rfl,hy⟩:=di (D:=D) (nu:=nu) (o:=[]) (w:=w) ⟨h2,h4⟩;obtain rfl:fi = #[]:=Array.eq_empty_of_size_eq_zero (by simpa using h1.symm)
  cases hy with
  | gu _ _ _ S k0 k1 k2 k3 k4=>
  obtain ⟨Bm,rfl⟩:=k3 w (fun _ _=>rfl)
  cases k4 with
  | vp _ _ _ f q1 q2 q3 q4=>
  have hm:=q2 0 _ rfl;have hmap:=q3 0 _ rfl;obtain ⟨b,D0,e0,hb,hown,hperm,hsize⟩:=Kt hmap hs (qv hr) hl;rw [e0] at hm;simp only [Nat.add_zero] at hm;have hseq:=AnyZ.keys_gives (ρ:=yg) { uc with } Fence.wide 2 trivial rfl (by omega) Bm b r.length D0 w q1.1 hm hown;have cS:=AnyZ.sorted_in yQ Fence.wide 5 trivial trivial trivial trivial rfl (by omega) (Nq _) (enters_of Tryz.func115 (by kernel_rfl) rfl) 201 #[.pointer (some ⟨Bm,0,none⟩)] trivial (enters_of Tryz.func201 (by kernel_rfl) rfl) _ _ (by rw [hsize];unfold maxLen;omega) (by rw [hsize];omega) w hseq;refine ((callsIn_wide (n:=5)).1 cS).mono ?_;rintro e w' ⟨v,ss,rfl,hS,hrow,hnil,hbl⟩
  have hlen:ss.length=(r.map Prod.fst).length:=by rw [hS.length_eq,hperm.length_eq,pK,VW,VW]
  have hk:(ss.mergeSort (fun x y=>decide (x<=y))).map encStr=(r.map Prod.fst).map Value.string:=by
   rw [Go.mergeSort_of_perm (hS.trans hperm),Ej hr,pK,XO,XO];refine List.map_congr_left fun p _=> ?_;simp [encStr]
  rw [hlen,hk] at hrow
  exact ⟨v,rfl,Bc hrow,hbl,EA hrow⟩)
theorem Ks {r:bn} {i:Nat} (h:i<r.length):cz (r.drop i)=[.v (.string r[i].1), .v (.int .i64 (r[i].2:Nat))] :: cz (r.drop (i+1)):=by
 rw [cz,List.drop_eq_getElem_cons h];rfl
theorem ML {r:bn} (hr:mZ (r.map Prod.fst)) {i:Nat} (h:i<r.length):look r r[i].1=some r[i].2:=Ko (qv hr) (List.getElem_mem h)
theorem uK (rows:List bn) (ends:List Bool) (s:Nat) (hs:s<rows.length) (hN:rows.length<=1000000) (hz: ∀p∈rows[s],p.1.size<=maxLen) (hr:mZ (rows[s].map Prod.fst)) (hl:rows[s].length<=1000000) :
  oC Tryz.prog 157 [.vp [.vp (gV rows ends)], .vp [.v (.int .i64 (s:Nat))]] [] (cz rows[s]):=by
 have CK:=Kj rows[s];have CS:=EZ rows[s] hz hr hl
 have e0:cz rows[s]=cz (rows[s].drop 0):=by rw [List.drop_zero]
 have eR:(rows.map (fun r=>[AV.mp (cz r)])).getD s []=[.mp (cz rows[s])]:=by
  rw [VX,Vl,Vi hs];rfl
 rw [show oC Tryz.prog 157 [.vp [.vp (gV rows ends)], .vp [.v (.int .i64 (s:Nat))]] [] (cz rows[s])=oC Tryz.prog 157 [.vp [.vp (gV rows ends)], .vp [.v (.int .i64 (s:Nat))]] [] (cz (rows[s].drop 0)) by rw [<-e0]];simp only [gV,cg,VW] at *
 (refine oC.enter Tryz.func157 rfl (by kernel_rfl) (by kernel_rfl) rfl (fun l=> ?_);simp only [Tryz.ntmps157,Tryz.results157,List.length_cons,List.length_nil,Nat.reduceAdd,Nat.reduceSub,WW,WX,WY,List.nil_append])
 repeat (first|(with_reducible first|refine ag.up ?_|refine fun (K:AK) hK=> ?_|refine ae (by decide) ?_|(refine hK _ ?_;clear hK K))|simp only [go_sem,eR]|with_reducible refine wA ?_|clear hK K)
 refine dt [] [] (by decide+kernel) (by kernel_rfl) ?_
 repeat (first|(with_reducible first|refine ag.up ?_|refine fun (K:AK) hK=> ?_|refine ae (by decide) ?_|(refine hK _ ?_;clear hK K))|simp only [go_sem,eR]|with_reducible refine wA ?_|clear hK K)
 refine bf.one CK ?_
 repeat (first|(with_reducible first|refine ag.up ?_|refine fun (K:AK) hK=> ?_|refine ae (by decide) ?_|(refine hK _ ?_;clear hK K))|simp only [go_sem,eR]|with_reducible refine wA ?_|clear hK K)
 refine bf.one CS ?_
 repeat (first|(with_reducible first|refine ag.up ?_|refine fun (K:AK) hK=> ?_|refine ae (by decide) ?_|(refine hK _ ?_;clear hK K))|simp only [go_sem,eR]|with_reducible refine wA ?_|clear hK K)
 refine oN (ι:=Nat) 17 (fun i=>[(16, .v (.int .i64 i)),(5, .undef)]) (fun i=>[]) (fun i=> .run l (cz (rows[s].drop i))) (fun i=>rows[s].length - i) (fun i=>i<=rows[s].length) 0 (by omega) ?_ ?_
 ·(refine aq ?_ ?_ ?_<;>simp only [aD,WJ,List.foldl_nil,WW,WX,aW,aY,AV.v.injEq,Value.int.injEq,Value.bool.injEq,Value.string.injEq,AV.vec.injEq,AV.ptr.injEq,true_or,or_true,false_or,or_false,aa.mk.injEq,forall_eq_apply_imp_iff,forall_eq,forall_eq',go_sem])
  rfl
 ·rintro i hi K hK
  repeat (first|(with_reducible first|refine ag.up ?_|refine fun (K:AK) hK=> ?_|refine ae (by decide) ?_|(refine hK _ ?_;clear hK K))|simp only [go_sem]|with_reducible refine wA ?_|clear hK K)
  refine eJ.part (fun h=> ?_) (fun h=> ?_)
  ·have hlt:i<rows[s].length:=by (try simp only [bne_iff_ne,ne_eq,bne_eq_false_iff_eq,beq_iff_eq,beq_eq_false_iff_ne,decide_eq_true_eq,decide_eq_false_iff_not,W5,Int.natCast_inj,Int.ofNat_lt,Int.ofNat_le] at h);omega
   have eW:=aB (k:=i) (by omega)
   have eG:(List.map encS (List.map Prod.fst rows[s])).getD i []=[.v (.string rows[s][i].1)]:=by
    rw [VX,Vl,Vl,Vi hlt];rfl
   have eY:=Ks hlt;have eA:=u7 rows[s][i].1 rows[s];rw [ML hr hlt] at eA;simp only [Option.map_some] at eA
   repeat (first|(with_reducible first|refine ag.up ?_|refine fun (K:AK) hK=> ?_|refine ae (by decide) ?_|(refine hK _ ?_;clear hK K))|simp only [go_sem,eG,h]|with_reducible refine wA ?_|clear hK K)
   (refine DI 11 (by decide+kernel) (by kernel_rfl) ?_;simp only [List.drop_succ_cons,List.drop_zero,List.take_succ_cons,List.take_zero])
   repeat' (first|(with_reducible first|refine ag.up ?_|refine fun (K:AK) hK=> ?_|refine ae (by decide) ?_|(refine hK _ ?_;clear hK K))|simp only [go_sem,eR,eA,eY,eW,Go.undef]|with_reducible refine wA ?_|clear hK K|(with_reducible refine ab.one (by assumption) ?_)|(with_reducible refine bf.one (by assumption) ?_)|(refine eJ.part (fun hb=> ?_) (fun hb=> ?_)<;>simp only [hb,go_sem,eR,eA,eY,eW,Go.undef])|(refine eJ.part (fun hb=> ?_) (fun hb=> ?_))|(with_reducible refine jc.mk ?_ ?_))
   ·exact aJ.mk (i+1) (by omega) (by omega) (by (refine aq ?_ ?_ ?_<;>simp only [aD,WJ,List.foldl_nil,WW,WX,aW,aY,AV.v.injEq,Value.int.injEq,Value.bool.injEq,Value.string.injEq,AV.vec.injEq,AV.ptr.injEq,true_or,or_true,false_or,or_false,aa.mk.injEq,forall_eq_apply_imp_iff,forall_eq,forall_eq',go_sem]))
   ·exact .inr trivial
  ·have e1:rows[s].drop i=[]:=List.drop_eq_nil_of_le (by (try simp only [bne_iff_ne,ne_eq,bne_eq_false_iff_eq,beq_iff_eq,beq_eq_false_iff_ne,decide_eq_true_eq,decide_eq_false_iff_not,W5,Int.natCast_inj,Int.ofNat_lt,Int.ofNat_le] at h);omega);simp only [e1,cz,List.map_nil]
   repeat (first|(with_reducible first|refine ag.up ?_|refine fun (K:AK) hK=> ?_|refine ae (by decide) ?_|(refine hK _ ?_;clear hK K))|simp only [go_sem]|with_reducible refine wA ?_|clear hK K)
   exact .inl trivial
theorem CM (rows:List bn) (ends:List Bool) (s:Nat):ah Tryz.prog 125 [.vp (gV rows ends), .v (.int .i64 (s:Nat))] (.fn 157 [] [.vp [.vp (gV rows ends)], .vp [.v (.int .i64 (s:Nat))]]):=by
 simp only [gV] at *
 (refine ah.enter Tryz.func125 rfl (by kernel_rfl) (by kernel_rfl) rfl (by first|rfl|(simp only [go_sem,WT,Bool.and_true,Bool.true_and])) (by first|rfl|(simp only [go_sem,WT,Bool.and_true,Bool.true_and])) ?_;simp only [Tryz.ntmps125,Tryz.results125,List.length_cons,List.length_nil,Nat.reduceAdd,Nat.reduceSub,WW,WX,WY,List.nil_append])
 repeat' (first|(with_reducible first|refine ag.up ?_|refine fun (K:AK) hK=> ?_|(refine hK _ ?_;clear hK K))|simp only [go_sem]|clear hK K|(with_reducible refine ab.one (by assumption) ?_)|(with_reducible refine bf.one (by assumption) ?_)|(refine eJ.part (fun hb=> ?_) (fun hb=> ?_)<;>simp only [hb,go_sem])|(refine eJ.part (fun hb=> ?_) (fun hb=> ?_))|(with_reducible refine jc.mk ?_ ?_))
 (refine jb.of 40 rfl ?_;simp only [go_sem])
end
section
theorem Mx {a b x y:List UInt8} (h:a++32 :: x=b++32 :: y) (ha:32∉a) (hb:32∉b):a=b∧x=y:=by
 induction a generalizing b with
 | nil=>
  cases b with
  | nil=>simpa using h
  | cons c b=>simp at h hb;exact absurd h.1 hb.1
 | cons d a ih=>
  cases b with
  | nil=>simp at h ha;exact absurd h.1.symm ha.1
  | cons c b=>
   simp only [List.cons_append,Xy,List.mem_cons,not_or] at h ha hb;obtain ⟨rfl,h⟩:=h;obtain ⟨h1,h2⟩:=ih h ha.2 hb.2;exact ⟨by rw [h1],h2⟩
section
variable (rows:List bn) (ends:List Bool)
def Ev (r:bn):Prop:= ∀p∈r,32∉p.1.data.toList
def wQ (part:List Nat) (r:bn):List Nat:=r.map (fun e=>part.getD e.2 0)
theorem y4 {part:List Nat}: ∀ {r s:bn},Ev r->Ev s->r.flatMap (fun e=>32 :: (e.1.data.toList++32 :: Lib.decDigits (part.getD e.2 0)))=s.flatMap (fun e=>32 :: (e.1.data.toList++32 :: Lib.decDigits (part.getD e.2 0)))->r.map Prod.fst=s.map Prod.fst∧wQ part r=wQ part s
 | [],[],_,_,_=>⟨rfl,rfl⟩
 | [],b :: s,_,_,h=>by simp at h
 | a :: r,[],_,_,h=>by simp at h
 | a :: r,b :: s,h1,h2,h=>by
  simp only [List.flatMap_cons,List.cons_append,List.append_assoc,Xy,true_and] at h;obtain ⟨k1,k2⟩:=Mx h (h1 a List.mem_cons_self) (h2 b List.mem_cons_self)
  have hh: ∀t:bn,(t.flatMap (fun e=>32 :: (e.1.data.toList++32 :: Lib.decDigits (part.getD e.2 0))))=[]∨(t.flatMap (fun e=>32 :: (e.1.data.toList++32 :: Lib.decDigits (part.getD e.2 0)))).head? = some 32:=fun t=>by
   cases t with
   | nil=>exact .inl rfl
   | cons a t=>exact .inr rfl
  obtain ⟨k3,k4⟩:=nw k2 (hh r) (hh s);obtain ⟨k5,k6⟩:=y4 (fun p hp=>h1 p (V2 _ hp)) (fun p hp=>h2 p (V2 _ hp)) k4
  have:a.1=b.1:=by
   cases ha:a.1 with|mk x=>cases hb:b.1 with|mk y=>
   rw [ha,hb] at k1;exact congrArg ByteArray.mk (Array.toList_inj.1 k1)
  exact ⟨by rw [WR,WR,k5,this],by rw [wQ,WR,k3];rw [wQ,wQ] at k6;rw [k6];rfl⟩
theorem EB {part:List Nat} {p q:Nat} {r s:bn} (h1:Ev r) (h2:Ev s) (h:cM part p r=cM part q s):p=q∧r.map Prod.fst=s.map Prod.fst∧wQ part r=wQ part s:=by
 have e:vY part p r=vY part q s:=by
  have:(cM part p r).data.toList=(cM part q s).data.toList:=by rw [h]
  simpa [cM] using this
 have hh: ∀t:bn,(t.flatMap (fun e=>32 :: (e.1.data.toList++32 :: Lib.decDigits (part.getD e.2 0))))=[]∨(t.flatMap (fun e=>32 :: (e.1.data.toList++32 :: Lib.decDigits (part.getD e.2 0)))).head? = some 32:=fun t=>by
  cases t with
  | nil=>exact .inl rfl
  | cons a t=>exact .inr rfl
 obtain ⟨k1,k2⟩:=nw e (hh r) (hh s);exact ⟨k1,y4 h1 h2 k2⟩
structure QC (part:List Nat):Prop where
 ends: ∀s t,s<rows.length->t<rows.length->part.getD s 0=part.getD t 0->ends.getD s false=ends.getD t false
 row: ∀s t,s<rows.length->t<rows.length->part.getD s 0=part.getD t 0->(rows.getD s []).map Prod.fst=(rows.getD t []).map Prod.fst∧wQ part (rows.getD s [])=wQ part (rows.getD t [])
def Cl:Prop:= ∀r∈rows,Ev r
theorem Cm (h:Cl rows) (s:Nat):Ev (rows.getD s []):=by
 rcases U6 s rows.length with q|q
 ·exact h _ (bQ q)
 ·rw [VX,List.getElem?_eq_none q];exact fun p hp=>by simp at hp
theorem ui {part:List Nat} {s t:Nat} (hs:s<rows.length) (ht:t<rows.length):(dS rows part).getD s 0=(dS rows part).getD t 0↔cM part (part.getD s 0) (rows.getD s [])=cM part (part.getD t 0) (rows.getD t []):=by
 have ok:=fT rows part rows.length;obtain ⟨q1,q2⟩:=ok.at' s hs;obtain ⟨r1,r2⟩:=ok.at' t ht
 constructor
 ·intro e;have e1:(dQ rows part rows.length).2.getD s 0=(dQ rows part rows.length).2.getD t 0:=e;rw [<-q2, <- r2];simp only [e1]
 ·intro e;rw [<-q2, <- r2] at e
  exact XP fun hne=>by
   rcases U6 ((dQ rows part rows.length).2.getD s 0) ((dQ rows part rows.length).2.getD t 0) with h|h
   ·exact XH.1 ok.nd _ _ q1 r1 h e
   ·exact XH.1 ok.nd _ _ r1 q1 (Nat.lt_of_le_of_ne h (fun q=>hne q.symm)) e.symm
theorem mM {part:List Nat} {s t:Nat} (hs:s<rows.length) (ht:t<rows.length) (h:(dS rows part).getD s 0=(dS rows part).getD t 0):part.getD s 0=part.getD t 0:=
 r6 ((ui rows hs ht).1 h)
theorem nN {part:List Nat} {s:Nat} (hs:s<rows.length):(dS rows part).getD s 0<gm rows part:=((fT rows part rows.length).at' s hs).1
theorem AX {part:List Nat} {many:Nat} (h:Oz rows part many) (hlt: ∀s,s<rows.length->part.getD s 0<many) (he:gm rows part=many) {s t:Nat} (hs:s<rows.length) (ht:t<rows.length) (hp:part.getD s 0=part.getD t 0):(dS rows part).getD s 0=(dS rows part).getD t 0:=by
 refine XP fun hne=> ?_
 have hch: ∀k, ∃m,k<many-> ∃u,u<rows.length∧part.getD u 0=k∧(dS rows part).getD u 0=m:=fun k=>by
  by_cases hk:k<many
  ·obtain ⟨u,h1,h2⟩:=h.2 k hk;exact ⟨_,fun _=>⟨u,h1,h2,rfl⟩⟩
  ·exact ⟨0,fun q=>absurd q hk⟩
 obtain ⟨f,hf⟩:=Classical.axiomOfChoice hch
 have fin: ∀a b,a<many->b<many->f a=f b->a=b:=fun a b ha hb e=>by
  obtain ⟨u,k1,k2,k3⟩:=hf a ha;obtain ⟨v,m1,m2,m3⟩:=hf b hb
  have:=mM rows k1 m1 (k3.trans (e.trans m3.symm))
  rw [<-k2, <- m2];exact this
 have hk:=hlt s hs
 
 obtain ⟨z,hz,hz2⟩: ∃z,z<rows.length∧part.getD z 0=part.getD s 0∧(dS rows part).getD z 0≠f (part.getD s 0):=by
  by_cases q:(dS rows part).getD s 0=f (part.getD s 0)
  ·exact ⟨t,ht,hp.symm,fun e=>hne (q.trans e.symm)⟩
  ·exact ⟨s,hs,rfl,q⟩
 have:=GO (many+1) (gm rows part) (fun a=>if a<many then f a else (dS rows part).getD z 0) (fun a ha=>by
  split
  ·rename_i q;obtain ⟨u,k1,_,k3⟩:=hf a q;rw [<-k3];exact nN rows k1
  ·exact nN rows hz) (fun a b ha hb e=>by
  have side: ∀a,a<many->f a≠(dS rows part).getD z 0:=fun a q e=>by
   obtain ⟨u,k1,k2,k3⟩:=hf a q
   have:=mM rows k1 hz (k3.trans e)
   have ha':a=part.getD s 0:=by rw [<-k2,this,hz2.1]
   subst ha';exact hz2.2 e.symm
  split at e<;>split at e
  ·rename_i q1 q2;exact fin a b q1 q2 e
  ·rename_i q1 q2;exact absurd e (side a q1)
  ·rename_i q1 q2;exact absurd e.symm (side b q2)
  ·omega)
 omega
def Lv (part:List Nat):Prop:= ∀s t,s<rows.length->t<rows.length->part.getD s 0=part.getD t 0->ends.getD s false=ends.getD t false
theorem yw (hn:Cl rows) (hT: ∀r∈rows, ∀p∈r,p.2<rows.length) (h0:0<rows.length): ∀(f:Nat) {part:List Nat} {many:Nat},Lv rows ends part->Oz rows part many->many<=rows.length->(many≠0-> ∀s,s<rows.length->part.getD s 0<many)->rows.length+1<=f+many ->
  QC rows ends (vZ rows f part many)∧(vZ rows f part many).length=rows.length
 | 0,part,many,_,_,_,_,hf=>by omega
 | f+1,part,many,he,ho,hm,hlt,hf=>by
  have hN:Lv rows ends (dS rows part):=fun s t hs ht h=>he s t hs ht (mM rows hs ht h);have hpos:0<gm rows part:=Nat.lt_of_le_of_lt (Nat.zero_le _) (nN rows (part:=part) h0);rw [vZ]
  split
  ·rename_i hq;refine ⟨⟨hN,fun s t hs ht h=> ?_⟩,(r9 rows part).1⟩;obtain ⟨_,k2,k3⟩:=EB (Cm rows hn s) (Cm rows hn t) ((ui rows hs ht).1 h);refine ⟨k2, ?_⟩
   
   have hlen:(rows.getD s []).length=(rows.getD t []).length:=by simpa using congrArg List.length k2
   refine List.ext_getElem (by simp only [wQ,List.length_map,hlen]) fun i h1 h2=> ?_
   have e:(wQ part (rows.getD s []))[i]? = (wQ part (rows.getD t []))[i]? :=by rw [k3]
   simp only [wQ,List.length_map] at h1 h2;simp only [wQ,List.getElem?_map,Vi h1,Vi h2,Option.map_some,Ve,List.getElem_map] at e ⊢;exact AX rows ho (hlt (by omega)) hq (hT _ (bQ hs) _ (List.getElem_mem h1)) (hT _ (bQ ht) _ (List.getElem_mem h2)) e
  ·rename_i hq
   have:=r8 rows ho
   exact yw hn hT h0 f hN (r9 rows part) (yv rows part) (fun _ s hs=>nN rows hs) (by omega)
theorem sc (hn:Cl rows) (hT: ∀r∈rows, ∀p∈r,p.2<rows.length) (h0:0<rows.length) (hl:ends.length=rows.length):QC rows ends (cG rows ends)∧(cG rows ends).length=rows.length:=by
 refine yw rows ends hn hT h0 (rows.length+2) (fun s t hs ht h=> ?_) ⟨by simp [p0,hl],fun k h=>by omega⟩ (Nat.zero_le _) (fun h=>absurd rfl h) (by omega)
 have hg: ∀u,u<rows.length->(p0 ends).getD u 0=if ends.getD u false then 1 else 0:=fun u hu=>by
  rw [p0,VX,List.getElem?_map,Vi (by omega),VX,Vi (by omega)];rfl
 rw [hg s hs,hg t ht] at h;cases h1:ends.getD s false<;>cases h2:ends.getD t false<;>simp_all
variable {rows ends}
theorem yl {part:List Nat}: ∀ {r s:bn},r.map Prod.fst=s.map Prod.fst->wQ part r=wQ part s-> ∀l,(look r l=none↔look s l=none)∧ ∀a b,look r l=some a->look s l=some b->part.getD a 0=part.getD b 0
 | [],[],_,_,l=>⟨Iff.rfl,fun a b h=>by simp [look] at h⟩
 | [],b :: s,h,_,l=>by simp at h
 | a :: r,[],h,_,l=>by simp at h
 | a :: r,b :: s,h1,h2,l=>by
  rw [WR,WR,Xy] at h1;rw [wQ,wQ,WR,WR,Xy] at h2;obtain ⟨k1,k2⟩:=yl h1.2 h2.2 l
  cases hh:dD l a.1
  ·have hb:dD l b.1=false:=by rw [<-h1.1];exact hh
   simp only [look,List.find?_cons,hh,hb] at k1 k2 ⊢;exact ⟨k1,k2⟩
  ·have hb:dD l b.1=true:=by rw [<-h1.1];exact hh
   simp only [look,List.find?_cons,hh,hb,Option.map_some];exact ⟨by simp,fun x y hx hy=>by cases hx;cases hy;exact h2.1⟩
theorem vO (hT: ∀r∈rows, ∀p∈r,p.2<rows.length) {s:Nat} (hs:s<rows.length) {l:ByteArray} {t:Nat} (h:look (rows.getD s []) l=some t):t<rows.length:=hT _ (bQ hs) _ (rQ h)
theorem uI (hT: ∀r∈rows, ∀p∈r,p.2<rows.length) {part:List Nat} (h:QC rows ends part): ∀(w:List ByteArray) {s t:Nat},s<rows.length->t<rows.length->part.getD s 0=part.getD t 0->c6 rows ends s w=c6 rows ends t w
 | [],s,t,hs,ht,e=>h.ends s t hs ht e
 | l :: w,s,t,hs,ht,e=>by
  obtain ⟨h1,h2⟩:=h.row s t hs ht e;obtain ⟨k1,k2⟩:=yl h1 h2 l;rw [c6,c6,gz,gz]
  cases q1:look (rows.getD s []) l with
  | none=>rw [k1.1 q1]
  | some a=>
   cases q2:look (rows.getD t []) l with
   | none=>rw [k1.2 q2] at q1;cases q1
   | some b=>exact uI hT h w (vO hT hs q1) (vO hT ht q2) (k2 a b q1 q2)
def FA (part order:List Nat) (r r':bn):Prop:= ∀l,(look r l=none->look r' l=none)∧ ∀t,look r l=some t-> ∃k,look r' l=some k∧k<order.length∧part.getD (order.getD k 0) 0=part.getD t 0
theorem FA.mono {part order t:List Nat} {r r':bn} (h:FA part order r r'):FA part (order++t) r r':=fun l=>
 ⟨(h l).1,fun a ha=>by
  obtain ⟨k,k1,k2,k3⟩:=(h l).2 a ha
  exact ⟨k,k1,by rw [U8];omega,by rw [cJ k2];exact k3⟩⟩
theorem H2 (part:List Nat) (order:List Nat): ∀r:bn,(r.map Prod.fst).Nodup->FA part (dR part order r).1 r (dR part order r).2:=by
 refine kb (fun _ l=>⟨fun _=>by simp [dR,look],fun t h=>by simp [look] at h⟩) ?_;intro r e ih hn l;rw [List.map_append] at hn;have hn':=List.nodup_append.1 hn;have ih:=ih hn'.1;have hm:look r e.1=none:=pe.2 fun q=>hn'.2.2 e.1 q e.1 (by simp) rfl
 have key: ∀(o':List Nat) (k:Nat),(∃t,o'=(dR part order r).1++t)->k<o'.length->part.getD (o'.getD k 0) 0=part.getD e.2 0->(look (r++[e]) l=none->look ((dR part order r).2++[(e.1,k)]) l=none)∧ ∀t,look (r++[e]) l=some t-> ∃j,look ((dR part order r).2++[(e.1,k)]) l=some j∧j<o'.length∧part.getD (o'.getD j 0) 0=part.getD t 0:=by
  rintro _ k ⟨t2,rfl⟩ hk hp;have e2:r++[e]=r++[(e.1,e.2)]:=rfl;rw [e2,jm,jm,jn,jn]
  by_cases hl:l=e.1
  ·subst hl;rw [hm,(ih _).1 hm,if_pos rfl,if_pos rfl];refine ⟨fun h=>by simp at h,fun t h=> ?_⟩;simp only [Option.none_or,Ve] at h;subst h;exact ⟨k,rfl,hk,hp⟩
  ·rw [if_neg hl,if_neg hl]
   refine ⟨fun h=> ?_,fun t h=> ?_⟩
   ·cases q:look r l with
    | none=>rw [(ih l).1 q];rfl
    | some t=>rw [q] at h;cases h
   ·cases q:look r l with
    | none=>rw [q] at h;cases h
    | some t'=>
     rw [q] at h;simp only [Option.some_or,Ve] at h;subst h;obtain ⟨j,j1,j2,j3⟩:=(ih l).2 t' q;exact ⟨j,by rw [j1];rfl,by rw [U8];omega,by rw [cJ j2];exact j3⟩
 rw [lO,EO]
 split
 ·rename_i n hq;obtain ⟨q1,q2⟩:=uv part hq
  have q3:(dR part order r).1.getD n 0=(dR part order r).1[n]:=by rw [VX,Vi q1,Option.getD_some]
  exact key _ n ⟨[],by simp⟩ q1 (by show part.getD ((dR part order r).1.getD n 0) 0=_;rw [q3];exact q2)
 ·exact key _ _ ⟨_,rfl⟩ (by simp) (by rw [dN])
structure QW (rows:List bn) (ends:List Bool) (part:List Nat) (st:w5):Prop where
 zero:st.order.getD 0 0=0
 row: ∀k,k<st.rows.length->FA part st.order (rows.getD (st.order.getD k 0) []) (st.rows.getD k [])
 DY: ∀k,k<st.rows.length->st.ends.getD k false=ends.getD (st.order.getD k 0) false
theorem KV (hT: ∀r∈rows, ∀p∈r,p.2<rows.length) (hN: ∀r∈rows,(r.map Prod.fst).Nodup) {part:List Nat} {st:w5} (ho:Fy rows part st) (h:QW rows ends part st) (h1:st.rows.length<st.order.length):QW rows ends part (fy rows ends part st):=by
 have hc:iq st<rows.length:=ho.lt _ (bQ h1);obtain ⟨_,_,_,k4,_,t,k6⟩:=qt part (n:=rows.length) ho.nd ho.lt (rows.getD (iq st) []) (hT _ (bQ hc));have hr:=H2 part st.order (rows.getD (iq st) []) (hN _ (bQ hc))
 have hg: ∀k,k<st.order.length->(fy rows ends part st).order.getD k 0=st.order.getD k 0:=fun k hk=>by simp only [fy,k6];exact cJ hk
 refine ⟨by rw [hg 0 (by omega)];exact h.zero,fun k hk=> ?_,fun k hk=> ?_⟩
 ·have hk':k<st.rows.length+1:=by simpa [fy] using hk
  rw [hg k (by omega)]
  rcases U6 k st.rows.length with q|q
  ·simp only [fy,k6,fp q];exact (h.row k q).mono
  ·obtain rfl:k=st.rows.length:=by omega
   simp only [fy,dN];exact hr
 ·have hk':k<st.rows.length+1:=by simpa [fy] using hk
  rw [hg k (by omega)]
  rcases U6 k st.rows.length with q|q
  ·simp only [fy];rw [fp (by rw [ho.ends];exact q)];exact h.DY k q
  ·obtain rfl:k=st.rows.length:=by omega
   simp only [fy];rw [<-ho.ends,dN,ho.ends];rfl
theorem H3 (hT: ∀r∈rows, ∀p∈r,p.2<rows.length) (hN: ∀r∈rows,(r.map Prod.fst).Nodup) {part:List Nat}: ∀(f:Nat) {st:w5},Fy rows part st->QW rows ends part st->QW rows ends part (nQ rows ends part f st)
 | 0,st,_,h=>h
 | f+1,st,ho,h=>by
  rw [nQ]
  split
  ·rename_i h1;exact H3 hT hN f (sj rows ends part hT ho h1) (KV hT hN ho h h1)
  ·exact h
theorem G7 (hT: ∀r∈rows, ∀p∈r,p.2<rows.length) (hN: ∀r∈rows,(r.map Prod.fst).Nodup) (h0:0<rows.length) (part:List Nat) :
  Fy rows part (c8 rows ends part)∧(c8 rows ends part).rows.length=(c8 rows ends part).order.length∧QW rows ends part (c8 rows ends part):=by
 have h:=Cv rows ends part hT (rows.length+1) (HY rows part h0) (by simp [q0]);exact ⟨h.1,h.2,H3 hT hN _ (HY rows part h0) ⟨rfl,fun k hk=>by simp [q0] at hk,fun k hk=>by simp [q0] at hk⟩⟩
theorem yD {part:List Nat}: ∀(f:Nat) {st:w5},st.order.length<=(nQ rows ends part f st).order.length
 | 0,st=>Nat.le_refl _
 | f+1,st=>by
  rw [nQ]
  split
  ·have hq: ∀(o:List Nat) (r:bn),o.length<=(dR part o r).1.length:=fun o=>by
    refine kb (by simp [dR]) ?_;intro r e ih;rw [lO,EO]
    split
    ·exact ih
    ·simp only [U8];omega
   exact Nat.le_trans (hq _ _) (yD f (st:=fy rows ends part st))
  ·exact Nat.le_refl _
theorem pL (hT: ∀r∈rows, ∀p∈r,p.2<rows.length) {part:List Nat} (hS:QC rows ends part) {st:w5} (ho:Fy rows part st) (hl:st.rows.length=st.order.length) (h:QW rows ends part st): ∀(w:List ByteArray) {k:Nat},k<st.order.length->c6 st.rows st.ends k w=c6 rows ends (st.order.getD k 0) w
 | [],k,hk=>h.DY k (by omega)
 | l :: w,k,hk=>by
  have hr:=h.row k (by omega) l;have hs:st.order.getD k 0<rows.length:=ho.lt _ (bQ hk);rw [c6,c6,gz,gz]
  cases q:look (rows.getD (st.order.getD k 0) []) l with
  | none=>rw [hr.1 q]
  | some t=>
   obtain ⟨j,j1,j2,j3⟩:=hr.2 t q;rw [j1]
   have:=pL hT hS ho hl h w j2
   rw [c6,c6] at this;simp only;rw [this];exact uI hT hS w (ho.lt _ (bQ j2)) (vO hT hs q) j3
end
end
theorem J4 {l:List Nat} {k:Nat} {x:List AV} (h:(aj l)[k]? = some x): ∃hk:k<l.length,x=[.v (.int .i64 (l[k]:Nat))]:=by
 obtain ⟨h1,h2⟩:=List.getElem?_eq_some_iff.1 h;simp only [aj,List.length_map] at h1;exact ⟨h1,by rw [<-h2];simp [aj]⟩
theorem gM {n0:Nat} {Q:aR->AS->Prop} {t:List AV} {o:List (Option aa)} {y:iW} {g:Operand} {ps:Array Tmp} {assign body:Code} (m:BitVec 32) (id:Nat) (ho:o[id]? = some (some (mC m))) (mm:Nat) (O:Nat->List (Option aa)) (ok:Nat->Prop) (h0:ok 0)
  (hg:(AS.mk t o y).ev g = .fn 213 [] [.ptr id 0 1 0 0]) (hdead:(O 0)[id]? = some none) (hwk:Wk n0 ⟨t,o,y⟩ ⟨cf mm t,O 0,y⟩) (hA:bq assign=true) (hB:bq body=true) (hps:ps.size=1)
  (hround: ∀k (hk:k<(ar m).length),ok k->bS Tryz.prog (O 0).length assign ⟨eH ps.toList [.v (.int .i64 ((ar m)[k]:Nat))] (cf mm t),O k,y⟩ (jB Tryz.prog (O 0).length body (ki (O 0).length (cf mm t) (ok (k+1)) (O (k+1)) y Q)))
  (hfin:ok (ar m).length->Q .normal ⟨cf mm t,O (ar m).length,y⟩):bS Tryz.prog n0 (.rangeFunc g ps assign body) ⟨t,o,y⟩ Q:=by
 have hl:(aj (ar m)).length=(ar m).length:=by simp [aj]
 refine qP (Ju m) [id] (by simp) ?_ ?_ O (fun _=>y) ok h0 (cf mm t) ?_ (by rfl) ?_ hwk hA hB ?_ ?_ (by rw [hl];exact hfin)
 ·simp only [WR,List.map_nil,ho,Option.map_some];rfl
 ·intro k ob hk
  match k,hk with
  | 0,hk=>cases hk;rfl
  | k+1,hk=>simp at hk
 ·rw [hg];rfl
 ·intro i hi ob
  obtain rfl:i=id:=by simpa using hi
  rw [hdead];intro h;cases h
 ·intro x hx;obtain ⟨p,_,rfl⟩:=List.mem_map.1 hx;exact hps.symm
 ·intro k x hk hx;obtain ⟨hlt,rfl⟩:=J4 hx;exact hround k hlt hk
def ofM (p:Int):BitVec 32:=if 0<=p∧p<=24 then 1#32 <<< p.toNat else 0#32
theorem nJ {p:Int} {i:Nat}:(ofM p).getLsbD i=decide (0<=p∧p<=24∧i=p):=by
 rw [ofM]
 split
 ·rename_i h;rw [BitVec.getLsbD_shiftLeft,BitVec.getLsbD_one,Bool.eq_iff_iff];simp;omega
 ·rename_i h;rw [BitVec.getLsbD_zero,eq_comm,decide_eq_false_iff_not];omega
theorem MS (p:Int):ah Tryz.prog 145 [.v (.int .i64 p)] (aE (ofM p)):=by
 have hS:0<=p∧p<=24->IntKind.u32.wrap (1 * 2 ^ min p.toNat 32)=((ofM p).toNat:Nat):=fun h=>by
  have e:min p.toNat 32=p.toNat:=by omega
  rw [ofM,if_pos h,e,Ky]
 have hZ: ¬(0<=p∧p<=24)->ofM p=0#32:=fun h=>by rw [ofM,if_neg h]
 simp only [aE]
 rcases Int.lt_or_le p 0 with h1|h1
 ·have b1:decide (p<0)=true:=decide_eq_true h1;rw [hZ (by omega)]
  (refine ah.enter Tryz.func145 rfl (by kernel_rfl) (by kernel_rfl) rfl (by first|rfl|(simp only [go_sem,WT,Wg,Wn])) (by first|rfl|(simp only [go_sem,WT,Wg,Wn])) ?_;simp only [Tryz.ntmps145,Tryz.results145,U9,U3,Nat.reduceAdd,Nat.reduceSub,WW,WX,WY,WZ])
  repeat (first|(with_reducible first|refine ag.up ?_|refine fun (K:AK) hK=> ?_|(refine hK _ ?_;clear hK K))|simp only [go_sem,b1,Go.undef]|with_reducible refine wA ?_|clear hK K)
  rfl
 ·have b1:decide (p<0)=false:=decide_eq_false (by omega)
  rcases Int.lt_or_le 24 p with h2|h2
  ·have b2:decide (24<p)=true:=decide_eq_true h2;rw [hZ (by omega)]
   (refine ah.enter Tryz.func145 rfl (by kernel_rfl) (by kernel_rfl) rfl (by first|rfl|(simp only [go_sem,WT,Wg,Wn])) (by first|rfl|(simp only [go_sem,WT,Wg,Wn])) ?_;simp only [Tryz.ntmps145,Tryz.results145,U9,U3,Nat.reduceAdd,Nat.reduceSub,WW,WX,WY,WZ])
   repeat (first|(with_reducible first|refine ag.up ?_|refine fun (K:AK) hK=> ?_|(refine hK _ ?_;clear hK K))|simp only [go_sem,b1,b2,Go.undef]|with_reducible refine wA ?_|clear hK K)
   rfl
  ·have b2:decide (24<p)=false:=decide_eq_false (by omega);have e:=hS ⟨h1,h2⟩;have e0:(0<=p)=True:=eq_true h1
   (refine ah.enter Tryz.func145 rfl (by kernel_rfl) (by kernel_rfl) rfl (by first|rfl|(simp only [go_sem,WT,Wg,Wn])) (by first|rfl|(simp only [go_sem,WT,Wg,Wn])) ?_;simp only [Tryz.ntmps145,Tryz.results145,U9,U3,Nat.reduceAdd,Nat.reduceSub,WW,WX,WY,WZ])
   repeat (first|(with_reducible first|refine ag.up ?_|refine fun (K:AK) hK=> ?_|(refine hK _ ?_;clear hK K))|simp only [go_sem,b1,b2,e,e0,Go.undef]|with_reducible refine wA ?_|clear hK K)
theorem Hb (m:BitVec 32):ah Tryz.prog 149 [aE m] (.aH 1 (aj (ar m)) (ar m).length):=by
 have A:=nV m;have hb:=DO m;simp only [mC,aE] at *
 (refine ah.enter Tryz.func149 rfl (by kernel_rfl) (by kernel_rfl) rfl (by first|rfl|(simp only [go_sem,WT,Wg,Wn])) (by first|rfl|(simp only [go_sem,WT,Wg,Wn])) ?_;simp only [Tryz.ntmps149,Tryz.results149,U9,U3,Nat.reduceAdd,Nat.reduceSub,WW,WX,WY,WZ])
 repeat (first|(with_reducible first|refine ag.up ?_|refine fun (K:AK) hK=> ?_|(refine hK _ ?_;clear hK K))|simp only [go_sem]|with_reducible refine wA ?_|clear hK K)
 refine ab.fr [] A (by simp) ?_ ?_ ?_ ?_ ?_
 ·rfl
 ·rfl
 ·rfl
 ·intro k ob hk;simp at hk
 repeat (first|(with_reducible first|refine ag.up ?_|refine fun (K:AK) hK=> ?_|(refine hK _ ?_;clear hK K))|simp only [go_sem]|with_reducible refine wA ?_|clear hK K)
 refine oL (fh (k:=0) (i:=0) (j:=0) 3 1 (by decide) rfl (by decide) rfl rfl) (by kernel_rfl) ?_;simp only [U9,U3,Nat.reduceAdd,WY,WZ,List.set_cons_zero]
 refine gM m 1 rfl 3 (fun k=>[some ⟨56,1,false,[[.vec 2 k]]⟩,none,some ⟨3,1,true,aj ((ar m).take k)⟩]) (fun _=>True) trivial ?_ rfl ?_ (by kernel_rfl) (by kernel_rfl) rfl ?_ ?_
 ·rfl
 ·(refine aq ?_ ?_ ?_<;>simp only [aD,WJ,WK,WW,WX,aW,aY,AV.v.injEq,Value.int.injEq,Value.bool.injEq,Value.string.injEq,AV.vec.injEq,AV.ptr.injEq,true_or,or_true,false_or,or_false,aa.mk.injEq,forall_eq_apply_imp_iff,forall_eq,forall_eq',go_sem])
  rfl
 ·intro k hk _
  have eS:aj ((ar m).take (k+1))=aj ((ar m).take k)++[[.v (.int .i64 ((ar m)[k]:Nat))]]:=by rw [Xe hk,aj,List.map_append];rfl
  have eL:(aj ((ar m).take k)).length=k:=by simp [aj];omega
  repeat (first|(with_reducible first|refine ag.up ?_|refine fun (K:AK) hK=> ?_|(refine hK _ ?_;clear hK K))|simp only [go_sem]|with_reducible refine wA ?_|clear hK K)
  rw [eS]
  (refine aq ?_ ?_ ?_<;>simp only [aD,WJ,WK,WW,WX,aW,aY,AV.v.injEq,Value.int.injEq,Value.bool.injEq,Value.string.injEq,AV.vec.injEq,AV.ptr.injEq,true_or,or_true,false_or,or_false,aa.mk.injEq,forall_eq_apply_imp_iff,forall_eq,forall_eq',go_sem])
 ·intro _;have e1:(ar m).take (ar m).length=ar m:=List.take_length
  have eL:(aj (ar m)).length=(ar m).length:=by simp [aj]
  repeat (first|(with_reducible first|refine ag.up ?_|refine fun (K:AK) hK=> ?_|(refine hK _ ?_;clear hK K))|simp only [go_sem,e1]|with_reducible refine wA ?_|clear hK K)
  rw [<-eL]
  (refine jb.of 40 rfl ?_;simp only [go_sem])
  trace_state
structure bN where
 af:List ByteArray
 fs:List (BitVec 32)
 la:BitVec 32
 em:Bool
def bN.row (i:Nat) (s:bN):List AV:= .vec i s.af.length :: (s.fs.map aE++[aE s.la, .v (.bool s.em)])
def bN.os (s:bN):List (Option aa):=[some ⟨188,28,false,[s.row 1]⟩,some ⟨9,1,true,s.af.map encS⟩]
def Er (b:BitVec 32) (fs:List (BitVec 32)) (p:Nat):List (BitVec 32):=fs.set p (fs.getD p 0#32 ||| b)
def kz (b:BitVec 32) (l:List Nat) (fs:List (BitVec 32)):List (BitVec 32):=l.foldl (Er b) fs
theorem nG (b:BitVec 32): ∀(l:List Nat) (fs:List (BitVec 32)),(kz b l fs).length=fs.length
 | [],fs=>rfl
 | p :: l,fs=>by rw [kz,WJ, <- kz,nG b l,Er,List.length_set]
theorem Es (b:BitVec 32) (l:List Nat) (p:Nat) (fs:List (BitVec 32)):kz b (l++[p]) fs=Er b (kz b l fs) p:=by
 rw [kz,List.foldl_append];rfl
theorem Cb {fs:List (BitVec 32)} {l:AV} {X:List AV} {p:Nat} (h:p<fs.length): ∃r,(l :: (fs.map aE++X)).drop (1+p * 1)=aE (fs.getD p 0#32) :: r:=by
 refine ⟨(fs.map aE++X).drop (p+1), ?_⟩;rw [Nat.mul_one,Nat.add_comm,List.drop_succ_cons,List.drop_eq_getElem_cons (by simp;omega),List.getElem_append_left (by simpa using h),List.getElem_map];simp [List.getD,h]
theorem MG {fs:List (BitVec 32)} {l:AV} {X:List AV} {p:Nat} (x:BitVec 32) (h:p<fs.length):(l :: (fs.map aE++X)).take (1+p * 1)++aE x :: (fs.map aE++X).drop (1+p * 1)=l :: ((fs.set p x).map aE++X):=by
 rw [Nat.mul_one,Nat.add_comm,List.take_succ_cons,WY,List.map_set, <- List.set_append_left p (aE x) (by simpa using h),List.set_eq_take_append_cons_drop,if_pos (by simp;omega)]
theorem Bw (n:Nat) (fs:List (BitVec 32)) (x y:Value):bp n (fs.map aE++[.v x, .v y])=true:=by
 induction fs with
 | nil=>rfl
 | cons z l ih=>simp only [WR,WY,bp,aE,AV.wf,Wn];exact ih
theorem wg (f:Nat->Nat) (fs:List (BitVec 32)) (x y:Value):bw f (fs.map aE++[.v x, .v y])=fs.map aE++[.v x, .v y]:=by
 induction fs with
 | nil=>rfl
 | cons z l ih=>simp only [WR,WY,bw,ih];rfl
attribute [go_sem] Bw wg
theorem Ha (s:bN) (a b:BitVec 32) (hl:s.fs.length=25) (ha: ∀p,p∈ar a->p<25) :
  aK Tryz.prog 147 [.ptr 0 0 28 0 0,aE a,aE b] s.os (.cy []) (bN.os { s with fs:=kz b (ar a) s.fs }):=by
 have A:=nV a;obtain ⟨af,fs,la,em⟩:=s;simp only [bN.os,bN.row,mC] at *;simp only [aE] at A;simp only [aE]
 (refine aK.enter Tryz.func147 rfl (by kernel_rfl) (by kernel_rfl) rfl ?_;simp only [Tryz.ntmps147,Tryz.results147,U9,U3,Nat.reduceAdd,Nat.reduceSub,WW,WX,WY,WZ])
 repeat (first|(with_reducible first|refine ag.up ?_|refine fun (K:AK) hK=> ?_|refine wE ?_|refine wK ?_|refine wF ?_|(refine hK _ ?_;clear hK K))|simp only [go_sem]|with_reducible refine wA ?_|clear hK K)
 refine ab.fr [] A (by simp) ?_ ?_ ?_ ?_ ?_
 ·rfl
 ·rfl
 ·rfl
 ·intro k ob hk;simp at hk
 repeat (first|(with_reducible first|refine ag.up ?_|refine fun (K:AK) hK=> ?_|refine wE ?_|refine wK ?_|refine wF ?_|(refine hK _ ?_;clear hK K))|simp only [go_sem]|with_reducible refine wA ?_|clear hK K)
 refine gM a 4 (by simp only [mC,aE];rfl) 6 (fun k=>[some ⟨188,28,false,[.vec 1 af.length :: ((kz b ((ar a).take k) fs).map aE++[.v (.int .u32 la.toNat), .v (.bool em)])]⟩,some ⟨9,1,true,af.map encS⟩,some ⟨149,1,false,[[.ptr 0 0 28 0 0]]⟩,some ⟨185,1,false,[[.v (.int .u32 b.toNat)]]⟩,none]) (fun _=>True) trivial ?_ rfl ?_ (by kernel_rfl) (by kernel_rfl) rfl ?_ ?_
 ·rfl
 ·(refine aq ?_ ?_ ?_<;>simp only [aD,WJ,WK,WW,WX,aW,aY,AV.v.injEq,Value.int.injEq,Value.bool.injEq,Value.string.injEq,AV.vec.injEq,AV.ptr.injEq,true_or,or_true,false_or,or_false,aa.mk.injEq,forall_eq_apply_imp_iff,forall_eq,forall_eq',go_sem])
  rfl
 ·intro k hk _;have hp:=ha _ (List.getElem_mem hk);rw [Xe hk,Es,Er]
  have hL:(kz b ((ar a).take k) fs).length=25:=by rw [nG];exact hl
  generalize kz b ((ar a).take k) fs=F at *;generalize (ar a)[k]=p at *;obtain ⟨r,eD⟩:=Cb (l:= .vec 1 af.length) (X:=[.v (.int .u32 la.toNat), .v (.bool em)]) (fs:=F) (p:=p) (by omega);have eS:=MG (l:= .vec 1 af.length) (X:=[.v (.int .u32 la.toNat), .v (.bool em)]) (fs:=F) (p:=p) (F.getD p 0#32 ||| b) (by omega);have eT:(p:Int).toNat=p:=Int.toNat_natCast p
  have eB:0<=(p:Int)∧(p:Int)<25:=by omega
  simp only [aE] at eD eS
  repeat (first|(with_reducible first|refine ag.up ?_|refine fun (K:AK) hK=> ?_|refine wE ?_|refine wK ?_|refine wF ?_|(refine hK _ ?_;clear hK K))|simp only [go_sem,eD,jY]|with_reducible refine wA ?_|clear hK K)
  rw [eS]
  (refine aq ?_ ?_ ?_<;>simp only [aD,WJ,WK,WW,WX,aW,aY,AV.v.injEq,Value.int.injEq,Value.bool.injEq,Value.string.injEq,AV.vec.injEq,AV.ptr.injEq,true_or,or_true,false_or,or_false,aa.mk.injEq,forall_eq_apply_imp_iff,forall_eq,forall_eq',go_sem])
 ·intro _;have e1:(ar a).take (ar a).length=ar a:=List.take_length
  repeat (first|(with_reducible first|refine ag.up ?_|refine fun (K:AK) hK=> ?_|refine wE ?_|refine wK ?_|refine wF ?_|(refine hK _ ?_;clear hK K))|simp only [go_sem,e1]|with_reducible refine wA ?_|clear hK K)
  (refine ⟨?_, ?_, ?_⟩<;>simp only [aW,aY,AV.v.injEq,Value.int.injEq,Value.bool.injEq,Value.string.injEq,AV.vec.injEq,AV.ptr.injEq,true_or,or_true,false_or,or_false,aa.mk.injEq,forall_eq_apply_imp_iff,forall_eq,forall_eq',go_sem])
structure I3 where
 st:bN
 op:Bool
 ends:BitVec 32
 first:BitVec 32
def cu (x:Ex) (b:bN×BitVec 32×BitVec 32) (r:I3):I3:=
 ⟨{ b.1 with fs:=kz b.2.1 (ar r.ends) b.1.fs },if bb x then r.op else false,(if bb x then r.ends else 0#32) ||| b.2.2,if r.op then r.first ||| b.2.1 else r.first⟩
mutual
def nh:Ex->bN->bN×BitVec 32×BitVec 32
 | .mk k s l,st=>
  if k=1 then ({ st with af:=st.af++[s] },ofM ((st.af.length+1:Nat):Int),ofM ((st.af.length+1:Nat):Int))
  else if k=2 then ((fF l ⟨st,true,0#32,0#32⟩).st,(fF l ⟨st,true,0#32,0#32⟩).first,(fF l ⟨st,true,0#32,0#32⟩).ends)
  else if k=4∨k=5 then ({ (ez l (st,0#32,0#32)).1 with fs:=kz (ez l (st,0#32,0#32)).2.1 (ar (ez l (st,0#32,0#32)).2.2) (ez l (st,0#32,0#32)).1.fs },(ez l (st,0#32,0#32)).2.1,(ez l (st,0#32,0#32)).2.2)
  else ez l (st,0#32,0#32)
def fF:List Ex->I3->I3
 | [],r=>r
 | x :: xs,r=>fF xs (cu x (nh x r.st) r)
def ez:List Ex->bN×BitVec 32×BitVec 32->bN×BitVec 32×BitVec 32
 | [],r=>r
 | x :: xs,r=>ez xs ((nh x r.1).1,r.2.1 ||| (nh x r.1).2.1,r.2.2 ||| (nh x r.1).2.2)
end
theorem xw: ∀(l m:List Ex) (r:I3),fF (l++m) r=fF m (fF l r)
 | [],m,r=>by simp [fF]
 | x :: l,m,r=>by simp only [WY,fF];exact xw l m _
theorem xv: ∀(l m:List Ex) (r:bN×BitVec 32×BitVec 32),ez (l++m) r=ez m (ez l r)
 | [],m,r=>by simp [ez]
 | x :: l,m,r=>by simp only [WY,ez];exact xv l m _
theorem o6 {fs:List (BitVec 32)} {p q:Nat} {x:BitVec 32} (h:p<fs.length):(fs.set p x).getD q 0#32=if q=p then x else fs.getD q 0#32:=by
 simp only [List.getD,List.getElem?_set]
 by_cases e:p=q
 ·subst e;simp [h]
 ·rw [if_neg e,if_neg (fun h=>e h.symm)]
theorem rP {b:BitVec 32}: ∀ {l:List Nat} {fs:List (BitVec 32)} {p q:Nat},(∀j∈l,j<fs.length)->(((kz b l fs).getD p 0#32).getLsbD q=true↔(fs.getD p 0#32).getLsbD q=true∨(p∈l∧b.getLsbD q=true))
 | [],fs,p,q,_=>by simp [kz]
 | j :: l,fs,p,q,hl=>by
  have hj:j<fs.length:=hl j (by simp);rw [kz,WJ, <- kz,rP (fun k hk=>by rw [Er,List.length_set];exact hl k (by simp [hk])),Er,o6 hj,List.mem_cons]
  by_cases e:p=j
  ·subst e;simp only [if_true,XQ,We,true_or,true_and]
   constructor
   ·rintro ((h|h)|⟨_,h⟩)
    ·exact .inl h
    ·exact .inr h
    ·exact .inr h
   ·rintro (h|h)
    ·exact .inl (.inl h)
    ·exact .inl (.inr h)
  ·rw [if_neg e];simp [e]
structure Me (x:Ex) (st:bN) (r:bN×BitVec 32×BitVec 32):Prop where
 af:r.1.af=st.af++bj x
 len:r.1.fs.length=25
 la:r.1.la=st.la
 em:r.1.em=st.em
 fst: ∀p,r.2.1.getLsbD p=true↔ly x st.af.length p
 wN: ∀p,r.2.2.getLsbD p=true↔jA x st.af.length p
 rp: ∀p q,(r.1.fs.getD p 0#32).getLsbD q=true↔(st.fs.getD p 0#32).getLsbD q=true∨jd x st.af.length p q
structure RM (l:List Ex) (r R:I3):Prop where
 af:R.st.af=r.st.af++aP l
 len:R.st.fs.length=25
 la:R.st.la=r.st.la
 em:R.st.em=r.st.em
 op:R.op=(r.op&&cY l)
 fst: ∀p,R.first.getLsbD p=true↔r.first.getLsbD p=true∨(r.op=true∧gw l r.st.af.length p)
 wN: ∀p,R.ends.getLsbD p=true↔(cY l=true∧r.ends.getLsbD p=true)∨je l r.st.af.length p
 rp: ∀p q,(R.st.fs.getD p 0#32).getLsbD q=true↔(r.st.fs.getD p 0#32).getLsbD q=true∨gv l r.st.af.length p q∨(r.ends.getLsbD p=true∧gw l r.st.af.length q)
structure RJ (l:List Ex) (r R:bN×BitVec 32×BitVec 32):Prop where
 af:R.1.af=r.1.af++aP l
 len:R.1.fs.length=25
 la:R.1.la=r.1.la
 em:R.1.em=r.1.em
 fst: ∀p,R.2.1.getLsbD p=true↔r.2.1.getLsbD p=true∨fW l r.1.af.length p
 wN: ∀p,R.2.2.getLsbD p=true↔r.2.2.getLsbD p=true∨fX l r.1.af.length p
 rp: ∀p q,(R.1.fs.getD p 0#32).getLsbD q=true↔(r.1.fs.getD p 0#32).getLsbD q=true∨iA l r.1.af.length p q
theorem qT: ∀(l:List Ex) (r:I3),(∀x∈l, ∀st,st.fs.length=25->st.af.length+(bj x).length<=24->Me x st (nh x st))->r.st.fs.length=25->(∀p∈ar r.ends,p<25)->r.st.af.length+(aP l).length<=24->RM l r (fF l r)
 | [],r,_,hf,he,hb=>by
  rw [fF];exact ⟨by simp [aP],hf,rfl,rfl,by simp [cY],fun p=>by simp [gw],fun p=>by simp [je,cY],fun p q=>by simp [gv,gw]⟩
 | x :: xs,r,hx,hf,he,hb=>by
  rw [aP,List.length_append] at hb;have B:=hx x (by simp) r.st hf (by omega);generalize hbx:nh x r.st=b at B
  have hlen:(r.st.af++bj x).length=r.st.af.length+(bj x).length:=by simp
  have hends: ∀p∈ar ((cu x b r).ends),p<25:=fun p hp=>by
   have:=aT.1 hp
   simp only [cu] at this;rw [XQ,We,B.wN] at this
   rcases this with h|h
   ·split at h
    ·exact he p (aT.2 h)
    ·simp at h
   ·have:=eX x h;omega
  have S:=qT xs (cu x b r) (fun y hy=>hx y (by simp [hy])) (by simp only [cu,nG];exact B.len) hends (by simp only [cu,B.af,hlen];omega)
  have hfol: ∀p q,((cu x b r).st.fs.getD p 0#32).getLsbD q=true↔((r.st.fs.getD p 0#32).getLsbD q=true∨jd x r.st.af.length p q)∨(r.ends.getLsbD p=true∧ly x r.st.af.length q):=fun p q=>by
   show ((kz _ _ _).getD p 0#32).getLsbD q=true↔_;rw [rP (fun j hj=>by rw [B.len];exact he j hj),B.rp,B.fst,aT]
  have hl2:(cu x b r).st.af.length=r.st.af.length+(bj x).length:=by simp only [cu,B.af,hlen]
  have hE: ∀p,(cu x b r).ends.getLsbD p=true↔(bb x=true∧r.ends.getLsbD p=true)∨jA x r.st.af.length p:=fun p=>by
   simp only [cu];rw [XQ,We,B.wN];cases bb x<;>simp
  have hF: ∀p,(cu x b r).first.getLsbD p=true↔r.first.getLsbD p=true∨(r.op=true∧ly x r.st.af.length p):=fun p=>by
   simp only [cu]
   cases r.op
   ·simp
   ·simp only [if_true,XQ,We,B.fst,true_and]
  have hO:(cu x b r).op=(r.op&&bb x):=by simp only [cu];cases r.op<;>cases bb x<;>rfl
  rw [fF,hbx]
  refine ⟨?_,S.len, ?_, ?_, ?_,fun p=> ?_,fun p=> ?_,fun p q=> ?_⟩
  ·rw [S.af];simp only [cu];rw [B.af,aP,List.append_assoc]
  ·rw [S.la];exact B.la
  ·rw [S.em];exact B.em
  ·rw [S.op,hO,cY,Bool.and_assoc]
  ·rw [S.fst,hF,hO,hl2,gw];grind
  ·rw [S.wN,hE,hl2,je,cY];grind
  ·rw [S.rp,hfol,hE,hl2,gw,gv];grind
theorem qS: ∀(l:List Ex) (r:bN×BitVec 32×BitVec 32),(∀x∈l, ∀st,st.fs.length=25->st.af.length+(bj x).length<=24->Me x st (nh x st))->r.1.fs.length=25->r.1.af.length+(aP l).length<=24->RJ l r (ez l r)
 | [],r,_,hf,hb=>by
  rw [ez];exact ⟨by simp [aP],hf,rfl,rfl,fun p=>by simp [fW],fun p=>by simp [fX],fun p q=>by simp [iA]⟩
 | x :: xs,r,hx,hf,hb=>by
  rw [aP,List.length_append] at hb;have B:=hx x (by simp) r.1 hf (by omega);rw [ez];generalize nh x r.1=b at B ⊢
  have hlen:b.1.af.length=r.1.af.length+(bj x).length:=by rw [B.af];simp
  have A:=qS xs (b.1,r.2.1 ||| b.2.1,r.2.2 ||| b.2.2) (fun y hy=>hx y (by simp [hy])) B.len (by rw [hlen];omega)
  refine ⟨?_,A.len, ?_, ?_,fun p=> ?_,fun p=> ?_,fun p q=> ?_⟩
  ·rw [A.af,B.af,aP,List.append_assoc]
  ·rw [A.la];exact B.la
  ·rw [A.em];exact B.em
  ·rw [A.fst,hlen,fW,XQ,We,B.fst];grind
  ·rw [A.wN,hlen,fX,XQ,We,B.wN];grind
  ·rw [A.rp,hlen,iA,B.rp];grind
theorem ni (x:Ex): ∀st:bN,st.fs.length=25->st.af.length+(bj x).length<=24->Me x st (nh x st):=by
 induction x using Ex.ind with
 | h k s l ih=>
  intro st hf hb
  by_cases h1:k=1
  ·subst h1
   have hl:bj (.mk 1 s l)=[s]:=by rw [bj,if_pos rfl]
   rw [hl] at hb;simp only [List.length_singleton] at hb
   have hp: ∀p,(ofM ((st.af.length+1:Nat):Int)).getLsbD p=true↔p=st.af.length+1:=fun p=>by
    rw [nJ,decide_eq_true_eq];omega
   rw [nh,if_pos rfl];exact ⟨by rw [hl],hf,rfl,rfl,fun p=>by rw [ly,if_pos rfl];exact hp p,fun p=>by rw [jA,if_pos rfl];exact hp p,fun p q=>by rw [jd,if_pos rfl,or_false]⟩
  ·rw [dA h1] at hb;rw [nh,if_neg h1]
   by_cases h2:k=2
   ·subst h2;rw [if_pos rfl];have S:=qT l ⟨st,true,0#32,0#32⟩ ih hf (by rw [jJ];intro p hp;cases hp) hb
    refine ⟨by rw [dA h1];exact S.af,S.len,S.la,S.em,fun p=> ?_,fun p=> ?_,fun p q=> ?_⟩
    ·rw [ly,if_neg h1,if_pos rfl,S.fst];simp
    ·rw [jA,if_neg h1,if_pos rfl,S.wN];simp
    ·rw [jd,if_neg h1,if_pos rfl,S.rp];simp
   ·rw [if_neg h2];have A:=qS l (st,0#32,0#32) ih hf hb
    have hF: ∀p,ly (.mk k s l) st.af.length p↔fW l st.af.length p:=fun p=>by rw [ly,if_neg h1,if_neg h2]
    have hL: ∀p,jA (.mk k s l) st.af.length p↔fX l st.af.length p:=fun p=>by rw [jA,if_neg h1,if_neg h2]
    have aF: ∀p,(ez l (st,0#32,0#32)).2.1.getLsbD p=true↔fW l st.af.length p:=fun p=>by rw [A.fst];simp
    have aL: ∀p,(ez l (st,0#32,0#32)).2.2.getLsbD p=true↔fX l st.af.length p:=fun p=>by rw [A.wN];simp
    by_cases h4:k=4∨k=5
    ·rw [if_pos h4];refine ⟨by rw [dA h1];exact A.af,by rw [nG];exact A.len,A.la,A.em,fun p=>by rw [hF,aF],fun p=>by rw [hL,aL],fun p q=> ?_⟩;show ((kz _ _ _).getD p 0#32).getLsbD q=true↔_
     rw [rP (fun j hj=>by
      have:=ew ((aL j).1 (aT.1 hj))
      rw [A.len];omega),A.rp,aF,aT,aL,jd,if_neg h1,if_neg h2]
     grind
    ·rw [if_neg h4];refine ⟨by rw [dA h1];exact A.af,A.len,A.la,A.em,fun p=>by rw [hF,aF],fun p=>by rw [hL,aL],fun p q=> ?_⟩;rw [A.rp,jd,if_neg h1,if_neg h2]
     grind
theorem uw (f:Nat->Nat) (l:List ByteArray):bu f (l.map encS)=l.map encS:=by
 induction l with
 | nil=>rfl
 | cons x l ih=>simp only [WR,bu,ih];rfl
theorem bN.H8 (s:bN) (n:Nat):s.os.map (fun x=>some (x.map (aa.aV (sig [0,1] n))))=s.os.map some:=by
 simp only [bN.os,bN.row,aE,WR,Xb,Option.map_some,aa.aV,bu,bw,AV.aV,wg,uw]
 rfl
theorem ab.NU {P:Program} {f:FuncId} {args:List AV} {s s':bN} {tl:List (Option aa)} {r0:AV} {K:AV->List (Option aa)->Prop} (h:aK P f args s.os r0 s'.os) (hargs:bw (sig [0,1] (tl.length+2)) args=args) (hwa:bp 2 args=true) (hr:r0.aV (sig [0,1] (tl.length+2))=r0)
  (k:K r0 (s'.os++tl)):ab P f args (s.os++tl) K:=by
 have hn:(s.os++tl).length=tl.length+2:=by simp [bN.os]
 refine ab.fr [0,1] h (by decide) ?_ ?_ hwa ?_ ?_
 ·rw [bN.H8];simp [bN.os]
 ·rw [hn,hargs]
 ·intro i ob hi
  match i,hi with
  | 0,hi=>cases hi;simp only [bN.row,aE,bZ,bp,AV.wf,Bw];rfl
  | 1,hi=>cases hi;exact aZ _ (fun _=>rfl) _
  | i+2,hi=>simp [bN.os] at hi
 ·rw [hn,hr]
  have e:dW (sig [0,1] (tl.length+2)) [0,1] s'.os (s.os++tl)=s'.os++tl:=by
   have h:=s'.H8 (tl.length+2);simp only [bN.os,WR,Xb,List.cons.injEq,Option.some.injEq,and_true] at h;simp only [bN.os,dW,h.1,h.2,WY,WZ,List.set_cons_zero,List.set_cons_succ,Xb,List.append_nil]
  rw [e];exact k
def Fx (x:Ex):Prop:= ∀st:bN,st.fs.length=25->st.af.length+(bj x).length<=24 ->
 aK Tryz.prog 114 [.ptr 0 0 28 0 0, .agg (bC x)] st.os (.agg [aE (nh x st).2.1,aE (nh x st).2.2]) (nh x st).1.os
theorem pb: ∀(l m:List Ex),aP (l++m)=aP l++aP m
 | [],m=>by simp [aP]
 | x :: l,m=>by simp only [WY,aP,pb l m,List.append_assoc]
structure OE (l:List Ex) (r:I3) (k:Nat) (S:I3):Prop where
 len:S.st.fs.length=25
 ends: ∀p∈ar S.ends,p<25
 af: ∀h:k<l.length,S.st.af.length+(bj l[k]).length<=24
theorem Nf {l:List Ex} {st:bN} (hf:st.fs.length=25) (hb:st.af.length+(aP l).length<=24) (k:Nat):OE l ⟨st,true,0#32,0#32⟩ k (fF (l.take k) ⟨st,true,0#32,0#32⟩):=by
 have e:aP l=aP (l.take k)++aP (l.drop k):=by rw [<-pb,XR]
 rw [e,U8] at hb;have S:=qT (l.take k) ⟨st,true,0#32,0#32⟩ (fun x _=>ni x) hf (by rw [jJ];intro p hp;cases hp) (by show st.af.length+(aP (l.take k)).length<=24;omega)
 refine ⟨S.len,fun p hp=> ?_,fun h=> ?_⟩
 ·rcases (S.wN p).1 (aT.1 hp) with h|h
  ·simp at h
  ·have h2:p<=st.af.length+(aP (l.take k)).length:=(ew (uW h)).2;omega
 ·rw [S.af,U8];rw [Wv h,aP,U8] at hb;simp only;omega
theorem DQ {l:List Ex} {k:Nat} (h:k<l.length) (r:I3):fF (l.take (k+1)) r=cu l[k] (nh l[k] (fF (l.take k) r).st) (fF (l.take k) r):=by
 rw [Xe h,xw];rfl
theorem Ng (l:List Ex) (hl:l.length<=24) (hk: ∀x∈l,x.ok∧aI x=true) (H: ∀x∈l,Fx x) (st:bN) (hf:st.fs.length=25) (hb:st.af.length+(aP l).length<=24) :
  aK Tryz.prog 146 [.ptr 0 0 28 0 0, .aH 3 (l.map bC) l.length] st.os (.agg [aE (fF l ⟨st,true,0#32,0#32⟩).first,aE (fF l ⟨st,true,0#32,0#32⟩).ends]) (fF l ⟨st,true,0#32,0#32⟩).st.os:=by
 have e0:fF (l.take 0) ⟨st,true,0#32,0#32⟩=⟨st,true,0#32,0#32⟩:=rfl;have eZ:aE 0#32 = .v (.int .u32 0):=rfl;simp only [aE,bN.os,bN.row]
 (refine aK.enter Tryz.func146 rfl (by kernel_rfl) (by kernel_rfl) rfl ?_;simp only [Tryz.ntmps146,Tryz.results146,U9,U3,Nat.reduceAdd,Nat.reduceSub,WW,WX,WY,WZ])
 repeat (first|(with_reducible first|refine ag.up ?_|refine fun (K:AK) hK=> ?_|(refine hK _ ?_;clear hK K))|simp only [go_sem]|with_reducible refine wA ?_|clear hK K)
 refine lD (ι:=Nat) (fun k=>[(0, .ptr 0 0 28 0 0),(4, .ptr 2 0 2 0 0),(5, .v (.bool (fF (l.take k) ⟨st,true,0#32,0#32⟩).op)),(6,aE (fF (l.take k) ⟨st,true,0#32,0#32⟩).ends),(10, .aH 3 (l.map bC) l.length),(11, .v (.int .i64 l.length)),(12, .v (.int .i64 k))])
  (fun k=>(fF (l.take k) ⟨st,true,0#32,0#32⟩).st.os++[some ⟨190,2,false,[[aE (fF (l.take k) ⟨st,true,0#32,0#32⟩).first, .v (.int .u32 0)]]⟩]) (fun k=>l.length - k) (fun k=>k<=l.length) 0 (by omega) ?_ ?_
 ·simp only [e0,aE,bN.os,bN.row,WY,WZ]
  (refine aq ?_ ?_ ?_<;>simp only [aD,WJ,WK,WW,WX,aW,aY,AV.v.injEq,Value.int.injEq,Value.bool.injEq,Value.string.injEq,AV.vec.injEq,AV.ptr.injEq,true_or,or_true,false_or,or_false,aa.mk.injEq,forall_eq_apply_imp_iff,forall_eq,forall_eq',go_sem])
  ·exact ⟨rfl,rfl⟩
  ·rfl
 ·intro k hkl K hK;have A:=Nf hf hb k;generalize hS:fF (l.take k) ⟨st,true,0#32,0#32⟩=S at A ⊢;simp only [aE,bN.os,bN.row,WY,WZ];simp only [aD,WJ,WK,WW,WX,go_sem]
  repeat (first|(with_reducible first|refine ag.up ?_|refine fun (K:AK) hK=> ?_|(refine hK _ ?_;clear hK K))|simp only [go_sem]|with_reducible refine wA ?_|clear hK K)
  refine eJ.part (fun h=> ?_) (fun h=> ?_)
  ·have hlt:k<l.length:=by (try simp only [bne_iff_ne,ne_eq,bne_eq_false_iff_eq,beq_iff_eq,beq_eq_false_iff_ne,decide_eq_true_eq,decide_eq_false_iff_not,W5,Int.natCast_inj,W8,Int.ofNat_le] at h);omega
   have eG:=getD_map bC l k [] hlt;have eW:=aB (k:=k) (by omega);have C1:=H l[k] (WA hlt) S.st A.len (A.af hlt);have B:=ni l[k] S.st A.len (A.af hlt);have hx:=hk l[k] (WA hlt);have C3:=uU l[k] hx.1;rw [dF,hx.2,Wn] at C3
   have hNext:fF (l.take (k+1)) ⟨st,true,0#32,0#32⟩=cu l[k] (nh l[k] S.st) S:=by rw [DQ hlt,hS]
   generalize l[k]=x at *;generalize nh x S.st=b at *;have C2:=Ha b.1 S.ends b.2.1 B.len A.ends;simp only [aN] at eG C1 C3;simp only [aE] at C1 C2
   have wE:bp 2 [.ptr 0 0 28 0 0, .agg [.v (.int .i64 x.kind), .v (.string x.label), .aH 3 (x.kids.map bC) x.kids.length]]=true:=by simp only [bp,AV.wf,fV,WT,Wn];rfl
   have rE: ∀f:Nat->Nat,f 0=0->bw f [.ptr 0 0 28 0 0, .agg [.v (.int .i64 x.kind), .v (.string x.label), .aH 3 (x.kids.map bC) x.kids.length]]=[.ptr 0 0 28 0 0, .agg [.v (.int .i64 x.kind), .v (.string x.label), .aH 3 (x.kids.map bC) x.kids.length]]:=fun f hf=>by
    simp only [bw,AV.aV,hf,aS f _ (fV 0 x.kids)]
   repeat (first|(with_reducible first|refine ag.up ?_|refine fun (K:AK) hK=> ?_|(refine hK _ ?_;clear hK K))|simp only [go_sem,eG]|with_reducible refine wA ?_|clear hK K)
   refine ab.NU C1 (rE _ rfl) wE rfl ?_;simp only [bN.os,bN.row,aE,WY,WZ];obtain ⟨sS,op,en,fi⟩:=S;simp only at *
   repeat (first|(with_reducible first|refine ag.up ?_|refine fun (K:AK) hK=> ?_|(refine hK _ ?_;clear hK K))|simp only [go_sem]|with_reducible refine wA ?_|clear hK K)
   refine ab.NU C2 rfl rfl rfl ?_;simp only [bN.os,bN.row,aE,WY,WZ];cases op<;>cases hem:bb x
   all_goals
    rw [hem] at C3
    repeat (first|(with_reducible first|refine ag.up ?_|refine fun (K:AK) hK=> ?_|(refine hK _ ?_;clear hK K))|simp only [go_sem,jY]|with_reducible refine wA ?_|clear hK K)
    refine ab.one C3 ?_
    repeat (first|(with_reducible first|refine ag.up ?_|refine fun (K:AK) hK=> ?_|(refine hK _ ?_;clear hK K))|simp only [go_sem,jY]|with_reducible refine wA ?_|clear hK K)
    refine aJ.mk (k+1) (by omega) (by omega) ?_;rw [hNext];simp only [cu,hem,bN.os,bN.row,aE,WY,WZ,if_true,if_false,Bool.false_eq_true]
    (refine aq ?_ ?_ ?_<;>simp only [aD,WJ,WK,WW,WX,aW,aY,AV.v.injEq,Value.int.injEq,Value.bool.injEq,Value.string.injEq,AV.vec.injEq,AV.ptr.injEq,true_or,or_true,false_or,or_false,aa.mk.injEq,forall_eq_apply_imp_iff,forall_eq,forall_eq',go_sem])
    all_goals first|exact eW|exact ⟨jY 0#32 _,eW⟩|exact ⟨jY _ _,eW⟩
  ·have hkl':k=l.length:=by (try simp only [bne_iff_ne,ne_eq,bne_eq_false_iff_eq,beq_iff_eq,beq_eq_false_iff_ne,decide_eq_true_eq,decide_eq_false_iff_not,W5,Int.natCast_inj,W8,Int.ofNat_le] at h);omega
   have eT:fF l ⟨st,true,0#32,0#32⟩=S:=by rw [<-hS,hkl',List.take_length]
   repeat (first|(with_reducible first|refine ag.up ?_|refine fun (K:AK) hK=> ?_|(refine hK _ ?_;clear hK K))|simp only [go_sem]|with_reducible refine wA ?_|clear hK K)
   (refine ⟨?_, ?_, ?_⟩<;>simp only [aW,aY,AV.v.injEq,Value.int.injEq,Value.bool.injEq,Value.string.injEq,AV.vec.injEq,AV.ptr.injEq,true_or,or_true,false_or,or_false,aa.mk.injEq,forall_eq_apply_imp_iff,forall_eq,forall_eq',go_sem])
   ·rw [eT]
   ·rw [eT];exact ⟨rfl,rfl⟩
theorem DP {l:List Ex} {k:Nat} (h:k<l.length) (r:bN×BitVec 32×BitVec 32):ez (l.take (k+1)) r=((nh l[k] (ez (l.take k) r).1).1,(ez (l.take k) r).2.1 ||| (nh l[k] (ez (l.take k) r).1).2.1,(ez (l.take k) r).2.2 ||| (nh l[k] (ez (l.take k) r).1).2.2):=by
 rw [Xe h,xv];rfl
structure Oo (l:List Ex) (k:Nat) (S:bN×BitVec 32×BitVec 32):Prop where
 len:S.1.fs.length=25
 wN: ∀p∈ar S.2.2,p<25
 af: ∀h:k<l.length,S.1.af.length+(bj l[k]).length<=24
theorem Mr {l:List Ex} {st:bN} (hf:st.fs.length=25) (hb:st.af.length+(aP l).length<=24) (k:Nat):Oo l k (ez (l.take k) (st,0#32,0#32)):=by
 have e:aP l=aP (l.take k)++aP (l.drop k):=by rw [<-pb,XR]
 rw [e,U8] at hb;have S:=qS (l.take k) (st,0#32,0#32) (fun x _=>ni x) hf (by show st.af.length+(aP (l.take k)).length<=24;omega)
 refine ⟨S.len,fun p hp=> ?_,fun h=> ?_⟩
 ·rcases (S.wN p).1 (aT.1 hp) with h|h
  ·simp at h
  ·have h2:p<=st.af.length+(aP (l.take k)).length:=(ew h).2;omega
 ·rw [S.af,U8];rw [Wv h,aP,U8] at hb;simp only;omega
theorem Bg {k:Int} {s:ByteArray} {l:List Ex} (h:aI (.mk k s l)=true): ∀x∈l,aI x=true:=fun x hx=>by
 simp only [aI,Bool.and_eq_true,decide_eq_true_eq,List.all_eq_true] at h ⊢
 have hs: ∀y,y∈az x->y∈az (.mk k s l):=fun y hy=>by
  rw [az,b6];exact List.mem_cons_of_mem _ (List.mem_flatMap.2 ⟨x,hx,hy⟩)
 refine ⟨?_,fun y hy=>h.2 y (hs y hy)⟩
 have:=pg (.mk k s l) x (hs x (by obtain ⟨k',s',l'⟩:=x;rw [az];exact List.mem_cons_self))
 omega
theorem Co: ∀ {l:List Ex},pH l-> ∀x∈l,x.ok
 | [],_,x,hx=>by cases hx
 | y :: l,h,x,hx=>by
  rw [pH] at h
  rcases List.mem_cons.1 hx with rfl|hx
  ·exact h.1
  ·exact Co h.2 x hx
theorem MX (x:Ex) (ho:x.ok) (hr:aI x=true):Fx x:=by
 induction x using Ex.ind with
 | h k s l ih=>
  intro st hf hb;have hkid: ∀x∈l,x.ok∧aI x=true:=fun x hx=>⟨Co (by rw [Ex.ok] at ho;exact ho.2) x hx,Bg hr x hx⟩;have H: ∀x∈l,Fx x:=fun x hx=>ih x hx (hkid x hx).1 (hkid x hx).2
  have hl:l.length<=24:=by
   simp only [aI,Bool.and_eq_true,decide_eq_true_eq] at hr
   have:=vK (.mk k s l);simp only [Ex.kids] at this;omega
  by_cases h1:k=1
  ·subst h1;rw [bj,if_pos rfl] at hb;simp only [List.length_singleton] at hb;have C:=MS ((st.af.length+1:Nat):Int)
   have eL:(st.af++[s]).map encS=st.af.map encS++[[.v (.string s)]]:=by simp [encS]
   have eN:(st.af++[s]).length=st.af.length+1:=by simp
   rw [nh,if_pos rfl];simp only [aN,Ex.kind,Ex.label,Ex.kids,aE,bN.os,bN.row,eL,eN] at C ⊢
   (refine aK.enter Tryz.func114 rfl (by kernel_rfl) (by kernel_rfl) rfl ?_;simp only [Tryz.ntmps114,Tryz.results114,U9,U3,Nat.reduceAdd,Nat.reduceSub,WW,WX,WY,WZ])
   repeat ((fail_if_success (with_reducible refine bL (i:=3) ?_));first|(with_reducible first|refine ag.up ?_|refine fun (K:AK) hK=> ?_|refine ae (by decide) ?_|refine ay (by decide) ?_|(refine hK _ ?_;clear hK K))|simp only [go_sem,Go.undef]|with_reducible refine wA ?_|(refine ak rfl ?_)|(refine ai rfl ?_)|clear hK K)
   refine dt [8,11] [] (by decide+kernel) (by kernel_rfl) ?_
   repeat (first|(with_reducible first|refine ag.up ?_|refine fun (K:AK) hK=> ?_|refine ae (by decide) ?_|refine ay (by decide) ?_|(refine hK _ ?_;clear hK K))|simp only [go_sem]|with_reducible refine wA ?_|(refine ak rfl ?_)|(refine ai rfl ?_)|clear hK K)
   refine ab.one C ?_
   repeat (first|(with_reducible first|refine ag.up ?_|refine fun (K:AK) hK=> ?_|refine ae (by decide) ?_|refine ay (by decide) ?_|(refine hK _ ?_;clear hK K))|simp only [go_sem]|with_reducible refine wA ?_|(refine ak rfl ?_)|(refine ai rfl ?_)|clear hK K)
   (refine ⟨?_, ?_, ?_⟩<;>simp only [aW,aY,AV.v.injEq,Value.int.injEq,Value.bool.injEq,Value.string.injEq,AV.vec.injEq,AV.ptr.injEq,true_or,or_true,false_or,or_false,aa.mk.injEq,forall_eq_apply_imp_iff,forall_eq,forall_eq',go_sem])
  ·have f1:(k==1)=false:=beq_false_of_ne h1;rw [dA h1] at hb;rw [nh,if_neg h1]
   have wE:bp 2 [.ptr 0 0 28 0 0, .aH 3 (l.map bC) l.length]=true:=by simp only [bp,AV.wf,fV,WT,Wn];rfl
   have rE: ∀f:Nat->Nat,f 0=0->bw f [.ptr 0 0 28 0 0, .aH 3 (l.map bC) l.length]=[.ptr 0 0 28 0 0, .aH 3 (l.map bC) l.length]:=fun f hf=>by
    simp only [bw,AV.aV,hf,aS f _ (fV 0 l)]
   by_cases h2:k=2
   ·subst h2;have C:=Ng l hl hkid H st hf hb;rw [if_pos rfl];generalize fF l ⟨st,true,0#32,0#32⟩=R at *;simp only [aN,Ex.kind,Ex.label,Ex.kids,aE] at C ⊢
    (refine aK.enter Tryz.func114 rfl (by kernel_rfl) (by kernel_rfl) rfl ?_;simp only [Tryz.ntmps114,Tryz.results114,U9,U3,Nat.reduceAdd,Nat.reduceSub,WW,WX,WY,WZ])
    repeat ((fail_if_success (with_reducible refine bL (i:=3) ?_));first|(with_reducible first|refine ag.up ?_|refine fun (K:AK) hK=> ?_|refine ae (by decide) ?_|refine ay (by decide) ?_|(refine hK _ ?_;clear hK K))|simp only [go_sem,f1,bN.os,bN.row,aE]|with_reducible refine wA ?_|(refine ak rfl ?_)|(refine ai rfl ?_)|clear hK K)
    refine ab.NU C (rE _ rfl) wE rfl ?_;simp only [bN.os,bN.row,aE,WY,WZ]
    repeat (first|(with_reducible first|refine ag.up ?_|refine fun (K:AK) hK=> ?_|refine ae (by decide) ?_|refine ay (by decide) ?_|(refine hK _ ?_;clear hK K))|simp only [go_sem]|with_reducible refine wA ?_|(refine ak rfl ?_)|(refine ai rfl ?_)|clear hK K)
    (refine ⟨?_, ?_, ?_⟩<;>simp only [aW,aY,AV.v.injEq,Value.int.injEq,Value.bool.injEq,Value.string.injEq,AV.vec.injEq,AV.ptr.injEq,true_or,or_true,false_or,or_false,aa.mk.injEq,forall_eq_apply_imp_iff,forall_eq,forall_eq',go_sem])
   ·have f2:(k==2)=false:=beq_false_of_ne h2;rw [if_neg h2];have e0:ez (l.take 0) (st,0#32,0#32)=(st,0#32,0#32):=rfl;simp only [aN,Ex.kind,Ex.label,Ex.kids,aE]
    (refine aK.enter Tryz.func114 rfl (by kernel_rfl) (by kernel_rfl) rfl ?_;simp only [Tryz.ntmps114,Tryz.results114,U9,U3,Nat.reduceAdd,Nat.reduceSub,WW,WX,WY,WZ])
    repeat ((fail_if_success (with_reducible refine bL (i:=3) ?_));first|(with_reducible first|refine ag.up ?_|refine fun (K:AK) hK=> ?_|refine ae (by decide) ?_|refine ay (by decide) ?_|(refine hK _ ?_;clear hK K))|simp only [go_sem,f1,f2,bN.os,bN.row,aE]|with_reducible refine wA ?_|(refine ak rfl ?_)|(refine ai rfl ?_)|clear hK K)
    refine lD (ι:=Nat) (fun j=>[(0, .ptr 0 0 28 0 0),(3, .ptr 2 0 3 0 0),(4, .ptr 3 0 2 0 0),(40, .aH 3 (l.map bC) l.length),(41, .v (.int .i64 l.length)),(42, .v (.int .i64 j))])
     (fun j=>(ez (l.take j) (st,0#32,0#32)).1.os++[some ⟨25,3,false,[[.v (.int .i64 k), .v (.string s), .aH 3 (l.map bC) l.length]]⟩,some ⟨190,2,false,[[aE (ez (l.take j) (st,0#32,0#32)).2.1,aE (ez (l.take j) (st,0#32,0#32)).2.2]]⟩]) (fun j=>l.length - j) (fun j=>j<=l.length) 0 (by omega) ?_ ?_
    ·simp only [e0,aE,bN.os,bN.row,WY,WZ]
     (refine aq ?_ ?_ ?_<;>simp only [aD,WJ,WK,WW,WX,aW,aY,AV.v.injEq,Value.int.injEq,Value.bool.injEq,Value.string.injEq,AV.vec.injEq,AV.ptr.injEq,true_or,or_true,false_or,or_false,aa.mk.injEq,forall_eq_apply_imp_iff,forall_eq,forall_eq',go_sem])
     all_goals first|rfl|exact ⟨rfl,rfl⟩
    ·intro j hjl K hK;have A:=Mr hf hb j;generalize hS:ez (l.take j) (st,0#32,0#32)=S at A ⊢;simp only [aE,bN.os,bN.row,WY,WZ];simp only [aD,WJ,WK,WW,WX,go_sem]
     repeat (first|(with_reducible first|refine ag.up ?_|refine fun (K:AK) hK=> ?_|refine ae (by decide) ?_|refine ay (by decide) ?_|(refine hK _ ?_;clear hK K))|simp only [go_sem]|with_reducible refine wA ?_|(refine ak rfl ?_)|(refine ai rfl ?_)|clear hK K)
     refine eJ.part (fun h=> ?_) (fun h=> ?_)
     ·have hlt:j<l.length:=by (try simp only [decide_eq_true_eq,decide_eq_false_iff_not,W8] at h);omega
      have eG:=getD_map bC l j [] hlt;have eW:=aB (k:=j) (by omega);have C1:=H l[j] (WA hlt) S.1 A.len (A.af hlt);have hNext:=DP hlt (st,0#32,0#32);rw [hS] at hNext;generalize l[j]=x at *;generalize nh x S.1=b at *;simp only [aN] at eG C1;simp only [aE] at C1
      have wX:bp 2 [.ptr 0 0 28 0 0, .agg [.v (.int .i64 x.kind), .v (.string x.label), .aH 3 (x.kids.map bC) x.kids.length]]=true:=by simp only [bp,AV.wf,fV,WT,Wn];rfl
      have rX: ∀f:Nat->Nat,f 0=0->bw f [.ptr 0 0 28 0 0, .agg [.v (.int .i64 x.kind), .v (.string x.label), .aH 3 (x.kids.map bC) x.kids.length]]=[.ptr 0 0 28 0 0, .agg [.v (.int .i64 x.kind), .v (.string x.label), .aH 3 (x.kids.map bC) x.kids.length]]:=fun f hf=>by
       simp only [bw,AV.aV,hf,aS f _ (fV 0 x.kids)]
      obtain ⟨sS,fi,la⟩:=S;simp only at *
      repeat (first|(with_reducible first|refine ag.up ?_|refine fun (K:AK) hK=> ?_|refine ae (by decide) ?_|refine ay (by decide) ?_|(refine hK _ ?_;clear hK K))|simp only [go_sem,eG]|with_reducible refine wA ?_|(refine ak rfl ?_)|(refine ai rfl ?_)|clear hK K)
      refine ab.NU C1 (rX _ rfl) wX rfl ?_;simp only [bN.os,bN.row,aE,WY,WZ]
      repeat ((fail_if_success (with_reducible refine bL (i:=12) ?_));first|(with_reducible first|refine ag.up ?_|refine fun (K:AK) hK=> ?_|refine ae (by decide) ?_|refine ay (by decide) ?_|(refine hK _ ?_;clear hK K))|simp only [go_sem,jY]|with_reducible refine wA ?_|(refine ak rfl ?_)|(refine ai rfl ?_)|clear hK K)
      refine dt [11,13] [(8,1000)] (by decide+kernel) (by kernel_rfl) ?_
      repeat (first|(with_reducible first|refine ag.up ?_|refine fun (K:AK) hK=> ?_|refine ae (by decide) ?_|refine ay (by decide) ?_|(refine hK _ ?_;clear hK K))|simp only [go_sem,jY]|with_reducible refine wA ?_|(refine ak rfl ?_)|(refine ai rfl ?_)|clear hK K)
      refine aJ.mk (j+1) (by omega) (by omega) ?_;rw [hNext];simp only [bN.os,bN.row,aE,WY,WZ]
      (refine aq ?_ ?_ ?_<;>simp only [aD,WJ,WK,WW,WX,aW,aY,AV.v.injEq,Value.int.injEq,Value.bool.injEq,Value.string.injEq,AV.vec.injEq,AV.ptr.injEq,true_or,or_true,false_or,or_false,aa.mk.injEq,forall_eq_apply_imp_iff,forall_eq,forall_eq',go_sem])
      all_goals first|exact eW|skip
     ·have hjl':j=l.length:=by (try simp only [decide_eq_true_eq,decide_eq_false_iff_not,W8] at h);omega
      have eT:ez l (st,0#32,0#32)=S:=by rw [<-hS,hjl',List.take_length]
      have C:=Ha S.1 S.2.2 S.2.1 A.len A.wN;obtain ⟨sS,fi,la⟩:=S;simp only at *;simp only [aE] at C
      by_cases h4:k=4
      ·subst h4
       repeat (first|(with_reducible first|refine ag.up ?_|refine fun (K:AK) hK=> ?_|refine ae (by decide) ?_|refine ay (by decide) ?_|(refine hK _ ?_;clear hK K))|simp only [go_sem,Go.undef]|with_reducible refine wA ?_|(refine ak rfl ?_)|(refine ai rfl ?_)|clear hK K)
       refine ab.NU C rfl rfl rfl ?_;simp only [bN.os,bN.row,aE,WY,WZ]
       repeat (first|(with_reducible first|refine ag.up ?_|refine fun (K:AK) hK=> ?_|refine ae (by decide) ?_|refine ay (by decide) ?_|(refine hK _ ?_;clear hK K))|simp only [go_sem]|with_reducible refine wA ?_|(refine ak rfl ?_)|(refine ai rfl ?_)|clear hK K)
       rw [eT];simp only [true_or,if_true,bN.os,bN.row,aE]
       (refine ⟨?_, ?_, ?_⟩<;>simp only [aW,aY,AV.v.injEq,Value.int.injEq,Value.bool.injEq,Value.string.injEq,AV.vec.injEq,AV.ptr.injEq,true_or,or_true,false_or,or_false,aa.mk.injEq,forall_eq_apply_imp_iff,forall_eq,forall_eq',go_sem])
      ·by_cases h5:k=5
       ·subst h5
        repeat (first|(with_reducible first|refine ag.up ?_|refine fun (K:AK) hK=> ?_|refine ae (by decide) ?_|refine ay (by decide) ?_|(refine hK _ ?_;clear hK K))|simp only [go_sem,Go.undef]|with_reducible refine wA ?_|(refine ak rfl ?_)|(refine ai rfl ?_)|clear hK K)
        refine ab.NU C rfl rfl rfl ?_;simp only [bN.os,bN.row,aE,WY,WZ]
        repeat (first|(with_reducible first|refine ag.up ?_|refine fun (K:AK) hK=> ?_|refine ae (by decide) ?_|refine ay (by decide) ?_|(refine hK _ ?_;clear hK K))|simp only [go_sem]|with_reducible refine wA ?_|(refine ak rfl ?_)|(refine ai rfl ?_)|clear hK K)
        rw [eT];simp only [or_true,if_true,bN.os,bN.row,aE]
        (refine ⟨?_, ?_, ?_⟩<;>simp only [aW,aY,AV.v.injEq,Value.int.injEq,Value.bool.injEq,Value.string.injEq,AV.vec.injEq,AV.ptr.injEq,true_or,or_true,false_or,or_false,aa.mk.injEq,forall_eq_apply_imp_iff,forall_eq,forall_eq',go_sem])
       ·have f4:(k==4)=false:=beq_false_of_ne h4;have f5:(k==5)=false:=beq_false_of_ne h5
        repeat (first|(with_reducible first|refine ag.up ?_|refine fun (K:AK) hK=> ?_|refine ae (by decide) ?_|refine ay (by decide) ?_|(refine hK _ ?_;clear hK K))|simp only [go_sem,f4,f5,Go.undef]|with_reducible refine wA ?_|(refine ak rfl ?_)|(refine ai rfl ?_)|clear hK K)
        rw [eT];simp only [h4,h5,or_self,if_false,bN.os,bN.row,aE]
        (refine ⟨?_, ?_, ?_⟩<;>simp only [aW,aY,AV.v.injEq,Value.int.injEq,Value.bool.injEq,Value.string.injEq,AV.vec.injEq,AV.ptr.injEq,true_or,or_true,false_or,or_false,aa.mk.injEq,forall_eq_apply_imp_iff,forall_eq,forall_eq',go_sem])
def gj (s:bN):List AV:= .aH 1 (s.af.map encS) s.af.length :: (s.fs.map aE++[aE s.la, .v (.bool s.em)])
theorem wJ (n:Nat) (s:bN):bp n (gj s)=true:=by simp only [gj,aE,bp,AV.wf,Bw,dB,WT]
attribute [go_sem] wJ
theorem MM (s:bN):ah Tryz.prog 153 [.vp (gj s)] (.v (.int .i64 s.af.length)):=by
 simp only [gj,aE]
 (refine ah.enter Tryz.func153 rfl (by kernel_rfl) (by kernel_rfl) rfl (by first|rfl|(simp only [go_sem,WT,Wg,Wn])) (by first|rfl|(simp only [go_sem,WT,Wg,Wn])) ?_;simp only [Tryz.ntmps153,Tryz.results153,U9,U3,Nat.reduceAdd,Nat.reduceSub,WW,WX,WY,WZ])
 repeat' (first|(with_reducible first|refine ag.up ?_|refine fun (K:AK) hK=> ?_|(refine hK _ ?_;clear hK K))|simp only [go_sem]|clear hK K|(with_reducible refine ab.one (by assumption) ?_)|(with_reducible refine bf.one (by assumption) ?_)|(refine eJ.part (fun hb=> ?_) (fun hb=> ?_)<;>simp only [hb,go_sem])|(refine eJ.part (fun hb=> ?_) (fun hb=> ?_))|(with_reducible refine jc.mk ?_ ?_))
theorem KB (s:bN) (hf:s.fs.length=25):ah Tryz.prog 117 [.vp (gj s)] (.aH 1 (aj (ar s.la)) (ar s.la).length):=by
 have C:=Hb s.la
 have eD:List.drop 25 (s.fs.map aE++[.v (.int .u32 s.la.toNat), .v (.bool s.em)])=[.v (.int .u32 s.la.toNat), .v (.bool s.em)]:=by rw [List.drop_append_of_le_length (by simp [hf]),List.drop_eq_nil_of_le (by simp [hf])];rfl
 simp only [gj,aE] at *
 (refine ah.enter Tryz.func117 rfl (by kernel_rfl) (by kernel_rfl) rfl (by first|rfl|(simp only [go_sem,WT,Wg,Wn])) (by first|rfl|(simp only [go_sem,WT,Wg,Wn])) ?_;simp only [Tryz.ntmps117,Tryz.results117,U9,U3,Nat.reduceAdd,Nat.reduceSub,WW,WX,WY,WZ])
 repeat (first|(with_reducible first|refine ag.up ?_|refine fun (K:AK) hK=> ?_|(refine hK _ ?_;clear hK K))|simp only [go_sem,eD]|clear hK K)
 refine ab.one C ?_
 repeat (first|(with_reducible first|refine ag.up ?_|refine fun (K:AK) hK=> ?_|(refine hK _ ?_;clear hK K))|simp only [go_sem]|clear hK K)
 (refine jb.of 40 rfl ?_;simp only [go_sem])
theorem Hi (s:bN) (hf:s.fs.length=25):ah Tryz.prog 122 [.vp (gj s)] (.v (.bool s.em)):=by
 have eD:List.drop 26 (s.fs.map aE++[.v (.int .u32 s.la.toNat), .v (.bool s.em)])=[.v (.bool s.em)]:=by
  rw [show 26=s.fs.length+1 by omega,show (s.fs.length+1)=(s.fs.map aE).length+1 by simp,List.drop_append];simp
 simp only [gj,aE] at *
 (refine ah.enter Tryz.func122 rfl (by kernel_rfl) (by kernel_rfl) rfl (by first|rfl|(simp only [go_sem,WT,Wg,Wn])) (by first|rfl|(simp only [go_sem,WT,Wg,Wn])) ?_;simp only [Tryz.ntmps122,Tryz.results122,U9,U3,Nat.reduceAdd,Nat.reduceSub,WW,WX,WY,WZ])
 repeat (first|(with_reducible first|refine ag.up ?_|refine fun (K:AK) hK=> ?_|(refine hK _ ?_;clear hK K))|simp only [go_sem,eD,Go.undef]|clear hK K)
def fq (s:bN) (p:Int):ByteArray:=if 1<=p∧p<=s.af.length then s.af.getD (p - 1).toNat ⟨#[]⟩ else ⟨#[]⟩
def Tx (s:bN) (p:Int):List Nat:=if 1<=p∧p<=s.af.length then ar (s.fs.getD p.toNat 0#32) else []
theorem Ek {s:bN} {p:Int} (h1:1<=p) (h2:p<=s.af.length):(s.af.map encS).getD (p - 1).toNat []=[.v (.string (fq s p))]:=by
 have hlt:(p - 1).toNat<s.af.length:=by omega
 rw [fq,if_pos ⟨h1,h2⟩];rw [VX,VX,List.getElem?_map,List.getElem?_eq_getElem hlt];rfl
theorem GD {fs:List (BitVec 32)} {X:List AV} {p:Nat} (h:p<fs.length): ∃r,(fs.map aE++X).drop (p * 1)=aE (fs.getD p 0#32) :: r:=by
 obtain ⟨r,e⟩:=Cb (l:= .undef) (X:=X) h;rw [Nat.add_comm,List.drop_succ_cons] at e;exact ⟨r,e⟩
def mL (s:bN) (l:List Nat):BitVec 32:=l.foldl (fun t p=>t ||| s.fs.getD p 0#32) 0#32
def rJ (s:bN) (lab:ByteArray) (t:BitVec 32) (p:Nat):BitVec 32:=if (fq s p).toList==lab.toList then t else t &&& ~~~ ofM p
def kq (s:bN) (lab:ByteArray) (l:List Nat) (t:BitVec 32):BitVec 32:=l.foldl (rJ s lab) t
def iv (s:bN) (aD:BitVec 32) (lab:ByteArray):BitVec 32:=kq s lab (ar (mL s (ar aD))) (mL s (ar aD))
theorem Ez (s:bN) (l:List Nat) (p:Nat):mL s (l++[p])=mL s l ||| s.fs.getD p 0#32:=by rw [mL,XJ];rfl
theorem AE (s:bN) (lab:ByteArray) (l:List Nat) (t:BitVec 32) (p:Nat):kq s lab (l++[p]) t=rJ s lab (kq s lab l t) p:=by rw [kq,XJ];rfl
theorem Nt (s:bN) (fr:BitVec 32) (lab:ByteArray) (hf:s.fs.length=25) (hn:s.af.length<=24) (h1: ∀p∈ar fr,p<25) (h2: ∀p∈ar (mL s (ar fr)),1<=p∧p<=s.af.length) :
  ah Tryz.prog 154 [.vp (gj s),aE fr, .v (.string lab)] (aE (iv s fr lab)):=by
 have A1:=nV fr;have A2:=nV (mL s (ar fr));have O:=fun p=>MS p;have hV:=wJ;obtain ⟨V,hVe⟩: ∃V,V=gj s:=⟨_,rfl⟩;simp only [mC,aE] at *
 (refine ah.enter Tryz.func154 rfl (by kernel_rfl) (by kernel_rfl) rfl (by first|rfl|(simp only [go_sem,WT,Wg,Wn])) (by first|rfl|(simp only [go_sem,WT,Wg,Wn])) ?_;simp only [Tryz.ntmps154,Tryz.results154,U9,U3,Nat.reduceAdd,Nat.reduceSub,WW,WX,WY,WZ])
 repeat (first|(with_reducible first|refine ag.up ?_|refine fun (K:AK) hK=> ?_|refine wE ?_|refine wD ?_|refine wK ?_|refine wF ?_|refine ae (by decide) ?_|refine ay (by decide) ?_|(refine hK _ ?_;clear hK K))|simp only [go_sem]|with_reducible refine wA ?_|clear hK K)
 refine ab.fr [] A1 (by simp) ?_ ?_ ?_ ?_ ?_
 ·rfl
 ·rfl
 ·rfl
 ·intro k ob hk;simp at hk
 repeat (first|(with_reducible first|refine ag.up ?_|refine fun (K:AK) hK=> ?_|refine wE ?_|refine wD ?_|refine wK ?_|refine wF ?_|refine ae (by decide) ?_|refine ay (by decide) ?_|(refine hK _ ?_;clear hK K))|simp only [go_sem]|with_reducible refine wA ?_|clear hK K)
 refine gM fr 3 (by simp only [mC,aE];rfl) 7 (fun k=>[some ⟨149,1,false,[[.vp (gj s)]]⟩,some ⟨9,1,false,[[.v (.string lab)]]⟩,some ⟨185,1,false,[[aE (mL s ((ar fr).take k))]]⟩,none]) (fun _=>True) trivial ?_ rfl ?_ (by kernel_rfl) (by kernel_rfl) rfl ?_ ?_
 ·rfl
 ·simp only [aE]
  (refine aq ?_ ?_ ?_<;>simp only [aD,WJ,WK,WW,WX,aW,aY,AV.v.injEq,Value.int.injEq,Value.bool.injEq,Value.string.injEq,AV.vec.injEq,AV.ptr.injEq,true_or,or_true,false_or,or_false,aa.mk.injEq,forall_eq_apply_imp_iff,forall_eq,forall_eq',go_sem])
  all_goals rfl
 ·intro k hk _;have hp:=h1 _ (List.getElem_mem hk);rw [Xe hk,Ez];generalize mL s ((ar fr).take k)=T at *;generalize (ar fr)[k]=p at *;obtain ⟨r,eD⟩:=GD (X:=[.v (.int .u32 s.la.toNat), .v (.bool s.em)]) (fs:=s.fs) (p:=p) (by omega);simp only [aE,gj] at eD ⊢
  repeat (first|(with_reducible first|refine ag.up ?_|refine fun (K:AK) hK=> ?_|refine wE ?_|refine wD ?_|refine wK ?_|refine wF ?_|refine ae (by decide) ?_|refine ay (by decide) ?_|(refine hK _ ?_;clear hK K))|simp only [go_sem,eD,jY]|with_reducible refine wA ?_|clear hK K)
  (refine aq ?_ ?_ ?_<;>simp only [aD,WJ,WK,WW,WX,aW,aY,AV.v.injEq,Value.int.injEq,Value.bool.injEq,Value.string.injEq,AV.vec.injEq,AV.ptr.injEq,true_or,or_true,false_or,or_false,aa.mk.injEq,forall_eq_apply_imp_iff,forall_eq,forall_eq',go_sem])
 ·intro _;have e1:(ar fr).take (ar fr).length=ar fr:=List.take_length;simp only [e1,aE,gj]
  repeat (first|(with_reducible first|refine ag.up ?_|refine fun (K:AK) hK=> ?_|refine wE ?_|refine wD ?_|refine wK ?_|refine wF ?_|refine ae (by decide) ?_|refine ay (by decide) ?_|(refine hK _ ?_;clear hK K))|simp only [go_sem]|with_reducible refine wA ?_|clear hK K)
  refine ab.fr [] A2 (by simp) ?_ ?_ ?_ ?_ ?_
  ·rfl
  ·rfl
  ·rfl
  ·intro k ob hk;simp at hk
  repeat (first|(with_reducible first|refine ag.up ?_|refine fun (K:AK) hK=> ?_|refine wE ?_|refine wD ?_|refine wK ?_|refine wF ?_|refine ae (by decide) ?_|refine ay (by decide) ?_|(refine hK _ ?_;clear hK K))|simp only [go_sem]|with_reducible refine wA ?_|clear hK K)
  have hS:iv s fr lab=kq s lab (ar (mL s (ar fr))) (mL s (ar fr)):=rfl;generalize mL s (ar fr)=T at *
  refine gM T 4 (by simp only [mC,aE];rfl) 7 (fun k=>[some ⟨149,1,false,[[.vp (gj s)]]⟩,some ⟨9,1,false,[[.v (.string lab)]]⟩,some ⟨185,1,false,[[aE (kq s lab ((ar T).take k) T)]]⟩,none,none]) (fun _=>True) trivial ?_ rfl ?_ (by kernel_rfl) (by kernel_rfl) rfl ?_ ?_
  ·rfl
  ·simp only [aE,gj]
   (refine aq ?_ ?_ ?_<;>simp only [aD,WJ,WK,WW,WX,aW,aY,AV.v.injEq,Value.int.injEq,Value.bool.injEq,Value.string.injEq,AV.vec.injEq,AV.ptr.injEq,true_or,or_true,false_or,or_false,aa.mk.injEq,forall_eq_apply_imp_iff,forall_eq,forall_eq',go_sem])
   all_goals rfl
  ·intro k hk _;have hp:=h2 _ (List.getElem_mem hk);rw [Xe hk,AE,rJ];generalize kq s lab ((ar T).take k) T=U at *;generalize (ar T)[k]=p at *;have eG:=Ek (s:=s) (p:=p) (by omega) (by omega);have eW:IntKind.i64.wrap ((p:Int) - 1)=(p:Int) - 1:=cF (by omega) (by omega);have C:=O p;simp only [aE,gj]
   cases hq:(fq s p).toList==lab.toList
   ·simp only [Bool.false_eq_true,if_false]
    repeat ((fail_if_success (with_reducible refine bL (i:=7) ?_));first|(with_reducible first|refine ag.up ?_|refine fun (K:AK) hK=> ?_|refine wK ?_|refine wF ?_|refine ae (by decide) ?_|refine ay (by decide) ?_|(refine hK _ ?_;clear hK K))|simp only [go_sem,eG,eW,hq]|with_reducible refine wA ?_|clear hK K)
    refine wD ?_
    repeat (first|(with_reducible first|refine ag.up ?_|refine fun (K:AK) hK=> ?_|refine wK ?_|refine wF ?_|refine ae (by decide) ?_|refine ay (by decide) ?_|(refine hK _ ?_;clear hK K))|simp only [go_sem,eG,eW,hq]|with_reducible refine wA ?_|clear hK K)
    refine dt [4] [] (by decide+kernel) (by kernel_rfl) ?_
    repeat (first|(with_reducible first|refine ag.up ?_|refine fun (K:AK) hK=> ?_|refine wK ?_|refine wF ?_|refine ae (by decide) ?_|refine ay (by decide) ?_|(refine hK _ ?_;clear hK K))|simp only [go_sem,eG,eW,hq]|with_reducible refine wA ?_|clear hK K)
    refine bf.one C ?_
    repeat (first|(with_reducible first|refine ag.up ?_|refine fun (K:AK) hK=> ?_|refine wK ?_|refine wF ?_|refine ae (by decide) ?_|refine ay (by decide) ?_|(refine hK _ ?_;clear hK K))|simp only [go_sem,Kw]|with_reducible refine wA ?_|clear hK K)
    (refine aq ?_ ?_ ?_<;>simp only [aD,WJ,WK,WW,WX,aW,aY,AV.v.injEq,Value.int.injEq,Value.bool.injEq,Value.string.injEq,AV.vec.injEq,AV.ptr.injEq,true_or,or_true,false_or,or_false,aa.mk.injEq,forall_eq_apply_imp_iff,forall_eq,forall_eq',go_sem])
    all_goals rfl
   ·simp only [if_true]
    repeat (first|(with_reducible first|refine ag.up ?_|refine fun (K:AK) hK=> ?_|refine wE ?_|refine wD ?_|refine wK ?_|refine wF ?_|refine ae (by decide) ?_|refine ay (by decide) ?_|(refine hK _ ?_;clear hK K))|simp only [go_sem,eG,eW,hq]|with_reducible refine wA ?_|clear hK K)
    (refine aq ?_ ?_ ?_<;>simp only [aD,WJ,WK,WW,WX,aW,aY,AV.v.injEq,Value.int.injEq,Value.bool.injEq,Value.string.injEq,AV.vec.injEq,AV.ptr.injEq,true_or,or_true,false_or,or_false,aa.mk.injEq,forall_eq_apply_imp_iff,forall_eq,forall_eq',go_sem])
    all_goals rfl
  ·intro _;have e2:(ar T).take (ar T).length=ar T:=List.take_length;simp only [e2,aE,gj]
   repeat (first|(with_reducible first|refine ag.up ?_|refine fun (K:AK) hK=> ?_|refine wE ?_|refine wD ?_|refine wK ?_|refine wF ?_|refine ae (by decide) ?_|refine ay (by decide) ?_|(refine hK _ ?_;clear hK K))|simp only [go_sem]|with_reducible refine wA ?_|clear hK K)
   rw [hS]
structure wZ (s:bN):Prop where
 len:s.fs.length=25
 n:s.af.length<=24
 rp: ∀p q,(s.fs.getD p 0#32).getLsbD q=true->1<=q∧q<=s.af.length
 la: ∀q,s.la.getLsbD q=true->1<=q∧q<=s.af.length
theorem rq {f:Nat->BitVec 32} {q:Nat}: ∀(l:List Nat) (t:BitVec 32),(l.foldl (fun t p=>t ||| f p) t).getLsbD q=true↔t.getLsbD q=true∨ ∃p∈l,(f p).getLsbD q=true
 | [],t=>by simp
 | x :: l,t=>by
  rw [WJ,rq l,BitVec.getLsbD_or,Bool.or_eq_true];simp only [Wr,exists_eq_or_imp,or_assoc]
theorem nL {s:bN} {l:List Nat} {q:Nat}:(mL s l).getLsbD q=true ↔ ∃p∈l,(s.fs.getD p 0#32).getLsbD q=true:=by
 rw [mL,rq];simp
theorem o9 {s:bN} {lab:ByteArray} {q:Nat} (hq:q<=24): ∀(l:List Nat) (t:BitVec 32),(kq s lab l t).getLsbD q=true↔t.getLsbD q=true∧(q∈l->((fq s q).toList==lab.toList)=true)
 | [],t=>by simp [kq]
 | x :: l,t=>by
  rw [kq,WJ, <- kq,o9 hq l,rJ]
  split
  ·rename_i h;simp only [Wr]
   constructor
   ·rintro ⟨h1,h2⟩;exact ⟨h1,fun hh=>hh.elim (fun e=>by rw [e];exact h) h2⟩
   ·rintro ⟨h1,h2⟩;exact ⟨h1,fun hh=>h2 (.inr hh)⟩
  ·rename_i h;rw [Xk,BitVec.getLsbD_not,nJ];simp only [Wr]
   constructor
   ·rintro ⟨h1,h2⟩;simp only [VS,Bool.not_eq_true',decide_eq_false_iff_not,decide_eq_true_eq] at h1;have hne:q≠x:=fun e=>h1.2.2 ⟨by omega,by omega,by omega⟩;exact ⟨h1.1,fun hh=>hh.elim (fun e=>absurd e hne) h2⟩
   ·rintro ⟨h1,h2⟩;have hne:q≠x:=fun e=>h (by rw [<-e];exact h2 (.inl e));refine ⟨?_,fun hh=>h2 (.inr hh)⟩;simp only [VS,Bool.not_eq_true',decide_eq_false_iff_not,decide_eq_true_eq];exact ⟨h1,by omega,fun hh=>hne (by omega)⟩
theorem lT {s:bN} (ok:wZ s) {m:BitVec 32} {lab:ByteArray} {q:Nat}:(iv s m lab).getLsbD q=true ↔ ∃p,m.getLsbD p=true∧(s.fs.getD p 0#32).getLsbD q=true∧(fq s q).toList=lab.toList:=by
 have hb: ∀q,(mL s (ar m)).getLsbD q=true->1<=q∧q<=s.af.length:=fun q h=>by
  obtain ⟨p,_,h⟩:=nL.1 h;exact ok.rp p q h
 have sub: ∀(l:List Nat) (t:BitVec 32),(kq s lab l t).getLsbD q=true->t.getLsbD q=true:=fun l=>by
  induction l with
  | nil=>intro t h;exact h
  | cons x l ih=>
   intro t h
   have:=ih _ h
   rw [rJ] at this
   split at this
   ·exact this
   ·rw [Xk,VS] at this;exact this.1
 constructor
 ·intro h;have h1:=sub _ _ h;have h2:=hb q h1;have h3:=ok.n
  have:=((o9 (by omega) _ _).1 h).2 (aT.2 h1)
  obtain ⟨p,h4,h5⟩:=nL.1 h1;exact ⟨p,aT.1 h4,h5,by simpa using this⟩
 ·rintro ⟨p,h1,h2,h3⟩;have h4:=ok.rp p q h2;have h5:=ok.n;exact (o9 (by omega) _ _).2 ⟨nL.2 ⟨p,aT.2 h1,h2⟩,fun _=>by simpa using h3⟩
theorem Lf {s:bN} (ok:wZ s) (m:BitVec 32) (lab:ByteArray) (h1: ∀p∈ar m,p<25):ah Tryz.prog 154 [.vp (gj s),aE m, .v (.string lab)] (aE (iv s m lab)):=
 Nt s m lab ok.len ok.n h1 (fun p hp=>by
  obtain ⟨q,_,h⟩:=nL.1 (aT.1 hp)
  exact ok.rp _ _ h)
def rA (s:bN) (t:BitVec 32) (p:Int):BitVec 32:=if p<=s.af.length then t ||| ofM p else t
def gH (s:bN) (l:List Int):BitVec 32:=l.foldl (rA s) 0#32
theorem Am (s:bN) (l:List Int) (p:Int):gH s (l++[p])=rA s (gH s l) p:=by rw [gH,XJ];rfl
theorem lG {s:bN} (ok:wZ s) {q:Nat}: ∀(l:List Int) (t:BitVec 32),(l.foldl (rA s) t).getLsbD q=true↔t.getLsbD q=true∨((q:Int)∈l∧q<=s.af.length)
 | [],t=>by simp
 | x :: l,t=>by
  have hn:=ok.n;rw [WJ,lG ok l,rA,Wr]
  split
  ·rename_i h;rw [BitVec.getLsbD_or,Bool.or_eq_true,nJ,decide_eq_true_eq]
   constructor
   ·rintro ((h|h)|h)
    ·exact .inl h
    ·exact .inr ⟨.inl h.2.2,by omega⟩
    ·exact .inr ⟨.inr h.1,h.2⟩
   ·rintro (h|⟨h|h,h2⟩)
    ·exact .inl (.inl h)
    ·exact .inl (.inr ⟨by omega,by omega,h⟩)
    ·exact .inr ⟨h,h2⟩
  ·rename_i h
   constructor
   ·rintro (h|h)
    ·exact .inl h
    ·exact .inr ⟨.inr h.1,h.2⟩
   ·rintro (h|⟨h|h,h2⟩)
    ·exact .inl h
    ·exfalso;omega
    ·exact .inr ⟨h,h2⟩
theorem GB {s:bN} (ok:wZ s) (l:List Int): ∀p∈ar (gH s l),p<25:=fun p hp=>by
 have:=(lG ok l 0#32).1 (aT.1 hp)
 have:=ok.n
 simp at *; omega
theorem KC {s:bN} (ok:wZ s) (l:List Int) (lab:ByteArray) (hl:l.length<=1000000):ah Tryz.prog 119 [.vp (gj s), .aH 1 (l.map encI) l.length, .v (.string lab)]
  (.aH 1 (aj (ar (iv s (gH s l) lab))) (ar (iv s (gH s l) lab)).length):=by
 have L:=MM s;have S:=Lf ok (gH s l) lab (GB ok l);have B:=Hb (iv s (gH s l) lab);have O:=fun p=>MS p;have eZ:aE 0#32 = .v (.int .u32 0):=rfl;generalize hR:iv s (gH s l) lab=R at *;simp only [aE] at *
 (refine ah.enter Tryz.func119 rfl (by kernel_rfl) (by kernel_rfl) rfl (by first|rfl|(simp only [go_sem,WT,Wg,Wn])) (by first|rfl|(simp only [go_sem,WT,Wg,Wn])) ?_;simp only [Tryz.ntmps119,Tryz.results119,U9,U3,Nat.reduceAdd,Nat.reduceSub,WW,WX,WY,WZ])
 repeat (first|(with_reducible first|refine ag.up ?_|refine fun (K:AK) hK=> ?_|(refine hK _ ?_;clear hK K))|simp only [go_sem]|with_reducible refine wA ?_|clear hK K)
 refine lD (ι:=Nat) (fun k=>[(0, .vp (gj s)),(1, .aH 1 (l.map encI) l.length),(2, .v (.string lab)),(6, .v (.slice none 0 0)),(7,aE (gH s (l.take k))),(12, .aH 1 (l.map encI) l.length),(13, .v (.int .i64 l.length)),(14, .v (.int .i64 k))]) (fun k=>[]) (fun k=>l.length - k) (fun k=>k<=l.length) 0 (by omega) ?_ ?_
 ·simp only [aE]
  (refine aq ?_ ?_ ?_<;>simp only [aD,WJ,WK,WW,WX,aW,aY,AV.v.injEq,Value.int.injEq,Value.bool.injEq,Value.string.injEq,AV.vec.injEq,AV.ptr.injEq,true_or,or_true,false_or,or_false,aa.mk.injEq,forall_eq_apply_imp_iff,forall_eq,forall_eq',go_sem])
  exact ⟨rfl,rfl⟩
 ·intro k hkl K hK;simp only [aE];simp only [aD,WJ,WK,WW,WX,go_sem]
  repeat (first|(with_reducible first|refine ag.up ?_|refine fun (K:AK) hK=> ?_|(refine hK _ ?_;clear hK K))|simp only [go_sem]|with_reducible refine wA ?_|clear hK K)
  refine eJ.part (fun h=> ?_) (fun h=> ?_)
  ·have hlt:k<l.length:=by (try simp only [bne_iff_ne,ne_eq,bne_eq_false_iff_eq,beq_iff_eq,beq_eq_false_iff_ne,decide_eq_true_eq,decide_eq_false_iff_not,W5,W7,W8,W9] at h);omega
   have eG:=getD_map encI l k [] hlt;have eW:=aB (k:=k) (by omega);have hN:=Am s (l.take k) l[k];rw [<-Xe hlt,rA] at hN;have Ok:=O l[k];simp only [encI] at eG
   repeat (first|(with_reducible first|refine ag.up ?_|refine fun (K:AK) hK=> ?_|(refine hK _ ?_;clear hK K))|simp only [go_sem,eG]|with_reducible refine wA ?_|clear hK K)
   refine ab.one L ?_
   repeat (first|(with_reducible first|refine ag.up ?_|refine fun (K:AK) hK=> ?_|(refine hK _ ?_;clear hK K))|simp only [go_sem]|with_reducible refine wA ?_|clear hK K)
   refine eJ.part (fun h=> ?_) (fun h=> ?_)
   ·rw [if_pos (by (try simp only [bne_iff_ne,ne_eq,bne_eq_false_iff_eq,beq_iff_eq,beq_eq_false_iff_ne,decide_eq_true_eq,decide_eq_false_iff_not,W5,W7,W8,W9] at h);omega)] at hN
    repeat (first|(with_reducible first|refine ag.up ?_|refine fun (K:AK) hK=> ?_|(refine hK _ ?_;clear hK K))|simp only [go_sem]|with_reducible refine wA ?_|clear hK K)
    refine ab.one Ok ?_
    repeat (first|(with_reducible first|refine ag.up ?_|refine fun (K:AK) hK=> ?_|(refine hK _ ?_;clear hK K))|simp only [go_sem,jY]|with_reducible refine wA ?_|clear hK K)
    refine aJ.mk (k+1) (by omega) (by omega) ?_;rw [hN];simp only [aE]
    (refine aq ?_ ?_ ?_<;>simp only [aD,WJ,WK,WW,WX,aW,aY,AV.v.injEq,Value.int.injEq,Value.bool.injEq,Value.string.injEq,AV.vec.injEq,AV.ptr.injEq,true_or,or_true,false_or,or_false,aa.mk.injEq,forall_eq_apply_imp_iff,forall_eq,forall_eq',go_sem])
    all_goals first|exact eW|skip
   ·rw [if_neg (by (try simp only [bne_iff_ne,ne_eq,bne_eq_false_iff_eq,beq_iff_eq,beq_eq_false_iff_ne,decide_eq_true_eq,decide_eq_false_iff_not,W5,W7,W8,W9] at h);omega)] at hN
    repeat (first|(with_reducible first|refine ag.up ?_|refine fun (K:AK) hK=> ?_|(refine hK _ ?_;clear hK K))|simp only [go_sem]|with_reducible refine wA ?_|clear hK K)
    refine aJ.mk (k+1) (by omega) (by omega) ?_;rw [hN];simp only [aE]
    (refine aq ?_ ?_ ?_<;>simp only [aD,WJ,WK,WW,WX,aW,aY,AV.v.injEq,Value.int.injEq,Value.bool.injEq,Value.string.injEq,AV.vec.injEq,AV.ptr.injEq,true_or,or_true,false_or,or_false,aa.mk.injEq,forall_eq_apply_imp_iff,forall_eq,forall_eq',go_sem])
    all_goals first|exact eW|skip
  ·have e1:l.take k=l:=List.take_of_length_le (by (try simp only [bne_iff_ne,ne_eq,bne_eq_false_iff_eq,beq_iff_eq,beq_eq_false_iff_ne,decide_eq_true_eq,decide_eq_false_iff_not,W5,W7,W8,W9] at h);omega);simp only [e1]
   repeat (first|(with_reducible first|refine ag.up ?_|refine fun (K:AK) hK=> ?_|(refine hK _ ?_;clear hK K))|simp only [go_sem]|with_reducible refine wA ?_|clear hK K)
   refine ab.one S ?_
   repeat (first|(with_reducible first|refine ag.up ?_|refine fun (K:AK) hK=> ?_|(refine hK _ ?_;clear hK K))|simp only [go_sem]|with_reducible refine wA ?_|clear hK K)
   refine ab.one B ?_
   repeat (first|(with_reducible first|refine ag.up ?_|refine fun (K:AK) hK=> ?_|(refine hK _ ?_;clear hK K))|simp only [go_sem]|with_reducible refine wA ?_|clear hK K)
   (refine jb.of 40 rfl ?_;simp only [go_sem])
def runM (s:bN) (w:List ByteArray):BitVec 32:=w.foldl (iv s) (ofM 0)
def sE (s:bN) (w:List ByteArray):Bool:=if w.length=0 then s.em else runM s w &&& s.la !=0#32
theorem GC {o:List (Option aa)}: ∀(L:List AV) (n:Nat),(∀c∈L, ∃x,c = .v x)->L.length+2<=n-> ∃p,fj o n L=some (p,L)∧p
 | [],n+1,_,_=>⟨True,rfl,trivial⟩
 | a :: l,n+2,hL,hn=>by
  obtain ⟨x,rfl⟩:=hL a (by simp);obtain ⟨p,h1,h2⟩:=GC (o:=o) l (n+1) (fun c hc=>hL c (by simp [hc])) (by simp at hn;omega);exact ⟨((AV.v x).wf 0=true)∧p,by rw [fj,h1];rfl,rfl,h2⟩
 | a :: l,0,_,hn=>by simp at hn
 | a :: l,1,_,hn=>by simp at hn
 | [],0,_,hn=>by simp at hn
def wo (x:Ex):bN:=⟨[],List.replicate 25 0#32,0#32,dF x⟩
def b0 (x:Ex):bN:={ (nh x (wo x)).1 with fs:=(nh x (wo x)).1.fs.set 0 (nh x (wo x)).2.1,la:=(nh x (wo x)).2.2 }
theorem En (x:Ex):(bj x).length<=(az x).length:=by
 induction x using Ex.ind with
 | h k s l ih=>
  have hl: ∀m:List Ex,(∀y∈m,(bj y).length<=(az y).length)->(aP m).length<=(bW m).length:=fun m=>by
   induction m with
   | nil=>intro _;simp [aP,bW]
   | cons y m ihm=>
    intro h;rw [aP,bW,List.length_append,List.length_append];have h1:=h y (by simp);have h2:=ihm (fun z hz=>h z (by simp [hz]));omega
  have:=hl l ih
  rw [bj,az,U9]
  split
  ·simp
  ·omega
theorem G4 {x:Ex} (h:aI x=true):(bj x).length<=24:=by
 simp only [aI,VS,decide_eq_true_eq] at h
 have:=En x;omega
theorem KD (af:List ByteArray) (f1 l1:BitVec 32) (rest:List (BitVec 32)) (em:Bool) (hr:rest.length=24) (o:List (Option aa)) (h1:o[1]? = some (some ⟨188,28,false,[.vec 2 af.length :: aE f1 :: (rest.map aE++[aE l1, .v (.bool em)])]⟩)) (h2:o[2]? = some (some ⟨9,1,true,af.map encS⟩)) :
  jb o (.cy [.ptr 1 0 28 0 0, .v (.int .i64 0)]) (.cy [.vp (gj ⟨af,f1 :: rest,l1,em⟩), .v (.int .i64 0)]):=by
 obtain ⟨p,hp,hp'⟩:=GC (o:=o) (aE f1 :: (rest.map aE++[aE l1, .v (.bool em)])) 50 (fun c hc=>by
  simp only [List.mem_cons,List.mem_append,List.mem_map,List.not_mem_nil,or_false] at hc
  rcases hc with rfl|⟨y,_,rfl⟩|rfl|rfl
  ·exact ⟨_,rfl⟩
  ·exact ⟨_,rfl⟩
  ·exact ⟨_,rfl⟩
  ·exact ⟨_,rfl⟩) (by simp [hr])
 have e1:fK o 50 (.vec 2 af.length)=some (True∧(af.map encS).length=af.length∧bZ 0 (af.map encS)=true, .aH 1 (af.map encS) af.length):=by
  rw [fK,h2];simp
 have e2:fj o 51 (.vec 2 af.length :: aE f1 :: (rest.map aE++[aE l1, .v (.bool em)]))=some ((True∧(af.map encS).length=af.length∧bZ 0 (af.map encS)=true)∧p, .aH 1 (af.map encS) af.length :: aE f1 :: (rest.map aE++[aE l1, .v (.bool em)])):=by
  rw [fj,e1,hp]
 refine jb.of 54 (p:=((((True∧(af.map encS).length=af.length∧bZ 0 (af.map encS)=true)∧p)∧aa.hl ⟨188,28,false,[.vec 2 af.length :: aE f1 :: (rest.map aE++[aE l1, .v (.bool em)])]⟩=0∧28=28∧0<1)∧(AV.v (.int .i64 0)).wf 0=true∧True)) ?_ ⟨⟨⟨⟨trivial,by simp,dB 0 af⟩,hp'⟩,rfl,rfl,by decide⟩,rfl,trivial⟩;rw [fK,fj,fK,h1];simp only [List.getD_cons_zero,e2]
 rfl
theorem Pb (x:Ex) (ho:x.ok):ah Tryz.prog 82 [.agg (bC x)] (if aI x then .cy [.vp (gj (b0 x)), .v (.int .i64 0)] else .cy [.v (.pointer none), .v (.int .i64 2)]):=by
 have R:=oU x ho;have E:=uU x ho
 cases hr:aI x
 ·rw [hr] at R;simp only [Bool.false_eq_true,if_false];simp only [aN] at *
  (refine ah.enter Tryz.func82 rfl (by kernel_rfl) (by kernel_rfl) rfl (by first|rfl|(simp only [go_sem,WT,Wg,Wn])) (by first|rfl|(simp only [go_sem,WT,Wg,Wn])) ?_;simp only [Tryz.ntmps82,Tryz.results82,U9,U3,Nat.reduceAdd,Nat.reduceSub,List.replicate_succ,List.replicate_zero,WY,WZ])
  repeat (first|(with_reducible first|refine ag.up ?_|refine fun (K:AK) hK=> ?_|refine ae (by decide) ?_|(refine hK _ ?_;clear hK K))|simp only [go_sem]|with_reducible refine wA ?_|(refine ak rfl ?_)|(refine ai rfl ?_)|clear hK K)
  refine ab.one R ?_
  repeat (first|(with_reducible first|refine ag.up ?_|refine fun (K:AK) hK=> ?_|refine ae (by decide) ?_|(refine hK _ ?_;clear hK K))|simp only [go_sem]|with_reducible refine wA ?_|(refine ak rfl ?_)|(refine ai rfl ?_)|clear hK K)
  (refine jb.of 40 rfl ?_;simp only [go_sem])
 ·rw [hr] at R;simp only [if_true];have hnl:(bj x).length<=24:=G4 hr;have P:=MX x ho hr (wo x) (by simp [wo]) (by simp [wo];exact hnl);have B:=ni x (wo x) (by simp [wo]) (by simp [wo];exact hnl);simp only [b0];generalize nh x (wo x)=b at *;simp only [aN] at *
  (refine ah.enter Tryz.func82 rfl (by kernel_rfl) (by kernel_rfl) rfl (by first|rfl|(simp only [go_sem,WT,Wg,Wn])) (by first|rfl|(simp only [go_sem,WT,Wg,Wn])) ?_;simp only [Tryz.ntmps82,Tryz.results82,U9,U3,Nat.reduceAdd,Nat.reduceSub,List.replicate_succ,List.replicate_zero,WY,WZ])
  repeat (first|(with_reducible first|refine ag.up ?_|refine fun (K:AK) hK=> ?_|refine ae (by decide) ?_|(refine hK _ ?_;clear hK K))|simp only [go_sem]|with_reducible refine wA ?_|(refine ak rfl ?_)|(refine ai rfl ?_)|clear hK K)
  refine ab.one R ?_
  repeat (first|(with_reducible first|refine ag.up ?_|refine fun (K:AK) hK=> ?_|refine ae (by decide) ?_|(refine hK _ ?_;clear hK K))|simp only [go_sem]|with_reducible refine wA ?_|(refine ak rfl ?_)|(refine ai rfl ?_)|clear hK K)
  refine ab.one E ?_
  repeat ((fail_if_success (with_reducible refine bL (i:=4) ?_));first|(with_reducible first|refine ag.up ?_|refine fun (K:AK) hK=> ?_|refine ae (by decide) ?_|(refine hK _ ?_;clear hK K))|simp only [go_sem]|with_reducible refine wA ?_|(refine ak rfl ?_)|(refine ai rfl ?_)|clear hK K)
  refine bU (fh (k:=1) (i:=0) (j:=0) 9 1 (by decide) rfl (show 0<28 by decide) rfl rfl) (by kernel_rfl) ?_;simp only [U9,U3,Nat.reduceAdd,WY,WZ,List.set_cons_zero,List.set_cons_succ]
  repeat ((fail_if_success (with_reducible refine bL (i:=5) ?_));first|(with_reducible first|refine ag.up ?_|refine fun (K:AK) hK=> ?_|refine ae (by decide) ?_|(refine hK _ ?_;clear hK K))|simp only [go_sem]|with_reducible refine wA ?_|(refine ak rfl ?_)|(refine ai rfl ?_)|clear hK K)
  have wE:bp 2 [.ptr 0 0 28 0 0, .agg [.v (.int .i64 x.kind), .v (.string x.label), .aH 3 (x.kids.map bC) x.kids.length]]=true:=by simp only [bp,AV.wf,fV,WT,Wn];rfl
  refine ab.fr [1,2] P (by decide) rfl ?_ wE ?_ ?_
  ·simp only [bw,AV.aV,aS _ _ (fV 0 x.kids)];rfl
  ·intro i ob hi
   match i,hi with
   | 0,hi=>cases hi;rfl
   | 1,hi=>cases hi;rfl
   | i+2,hi=>simp [bN.os] at hi
  simp only [bN.os,bN.row,aE,dW,List.map_cons,List.map_nil,Option.map_some,aa.aV,bu,bw,AV.aV,wg,uw,U9,U3,List.set_cons_zero,List.set_cons_succ,List.append_nil];have e1:sig [1,2] 3 1=2:=rfl;simp only [Nat.reduceAdd,e1];obtain ⟨⟨af,fs,la,em⟩,f1,l1⟩:=b
  obtain ⟨f0,rest,rfl⟩: ∃f0 rest,fs=f0 :: rest:=by
   cases fs with
   | nil=>have:=B.len;simp at this
   | cons a r=>exact ⟨a,r,rfl⟩
  have hr24:rest.length=24:=by have:=B.len;simpa using this
  have t24:List.take 24 (rest.map aE++[.v (.int .u32 la.toNat), .v (.bool em)])=rest.map aE:=by rw [List.take_append_of_le_length (by simp [hr24]),List.take_of_length_le (by simp [hr24])]
  have d25:List.drop 25 (rest.map aE++[.v (.int .u32 la.toNat), .v (.bool em)])=[.v (.bool em)]:=by
   rw [show 25=(rest.map aE).length+1 by simp [hr24],List.drop_append];simp
  simp only [List.map_cons,aE,WY]
  repeat ((fail_if_success (with_reducible refine bL (i:=5) ?_));first|(with_reducible first|refine ag.up ?_|refine fun (K:AK) hK=> ?_|refine ae (by decide) ?_|(refine hK _ ?_;clear hK K))|simp only [go_sem]|with_reducible refine wA ?_|(refine ak rfl ?_)|(refine ai rfl ?_)|clear hK K)
  refine dt [9,12] [(5,1000)] (by decide+kernel) (by kernel_rfl) ?_
  repeat (first|(with_reducible first|refine ag.up ?_|refine fun (K:AK) hK=> ?_|refine ae (by decide) ?_|(refine hK _ ?_;clear hK K))|simp only [go_sem,t24,d25]|with_reducible refine wA ?_|(refine ak rfl ?_)|(refine ai rfl ?_)|clear hK K)
  refine KD af f1 l1 rest em hr24 _ rfl rfl
structure Mh (x:Ex) (s:bN):Prop where
 af:s.af=bj x
 ok:wZ s
 fst: ∀q,(s.fs.getD 0 0#32).getLsbD q=true↔ly x 0 q
 rp: ∀p q,p≠0->((s.fs.getD p 0#32).getLsbD q=true↔jd x 0 p q)
 wN: ∀q,s.la.getLsbD q=true↔jA x 0 q
 em:s.em=bb x
theorem nI {x:Ex} (hr:aI x=true):Mh x (b0 x):=by
 have hn:=G4 hr;have B:=ni x (wo x) (by simp [wo]) (by simp [wo];exact hn)
 have hz: ∀p,(wo x).fs.getD p 0#32=0#32:=fun p=>by
  simp only [wo,VX,List.getElem?_replicate];split<;>rfl
 have hb:(wo x).af.length=0:=rfl;have hl:(b0 x).af=bj x:=B.af
 have hlen:(b0 x).fs.length=25:=by simp only [b0,List.length_set];exact B.len
 have h0: ∀q,((b0 x).fs.getD 0 0#32).getLsbD q=true↔ly x 0 q:=fun q=>by
  simp only [b0];rw [o6 (by rw [B.len];decide),if_pos rfl,B.fst,hb]
 have hp: ∀p q,p≠0->(((b0 x).fs.getD p 0#32).getLsbD q=true↔jd x 0 p q):=fun p q hp=>by
  simp only [b0];rw [o6 (by rw [B.len];decide),if_neg hp,B.rp,hb,hz];simp
 have hla: ∀q,(b0 x).la.getLsbD q=true↔jA x 0 q:=fun q=>by
  have:=B.wN q;rw [hb] at this;exact this
 refine ⟨hl,⟨hlen,by rw [hl];exact hn,fun p q h=> ?_,fun q h=> ?_⟩,h0,hp,hla, ?_⟩
 ·rw [hl]
  by_cases e:p=0
  ·subst e;have:=fI x ((h0 q).1 h);omega
  ·have:=(dr x ((hp p q e).1 h)).2;omega
 ·rw [hl];have:=eX x ((hla q).1 h);omega
 ·show (nh x (wo x)).1.em=_;rw [B.em];simp [wo,dF,hr]
theorem run_get {s:bN} (ok:wZ s) {q:Nat}: ∀(w:List ByteArray) (m:BitVec 32),(w.foldl (iv s) m).getLsbD q=true ↔ ∃p,m.getLsbD p=true∧a7 (fun p q=>(s.fs.getD p 0#32).getLsbD q=true) (fun p=>fq s p) p w q
 | [],m=>by simp [a7]
 | a :: w,m=>by
  rw [List.foldl_cons,run_get ok w]
  constructor
  ·rintro ⟨r,h1,h2⟩;obtain ⟨p,k1,k2,k3⟩:=(lT ok).1 h1;exact ⟨p,k1,r,k2,toList_inj.1 (by simpa using k3),h2⟩
  ·rintro ⟨p,k1,r,k2,rfl,h2⟩;exact ⟨r,(lT ok).2 ⟨p,k1,k2,rfl⟩,h2⟩
theorem E4 {x:Ex} (hr:aI x=true) (w:List ByteArray):sE (b0 x) w=ei x w:=by
 have N:=nI hr;have F:=(js hr).1
 by_cases h0:w.length=0
 ·obtain rfl:=VF h0;rw [sE,if_pos h0,N.em,Xt,iL F,kP];simp [hr]
 ·rw [sE,if_neg h0,Xt,kP];simp only [hr,true_and];have hw:w≠[]:=fun e=>h0 (by rw [e];rfl)
  have hg:l5 (bj x) 0 (fun p=>fq (b0 x) p):=fun i a hi=>by
   have hlt:=(List.getElem?_eq_some_iff.1 hi).1;show fq (b0 x) ((0+1+i:Nat):Int)=a;rw [fq,if_pos (by rw [N.af];omega),N.af,VX,show (((0+1+i:Nat):Int) - 1).toNat=i by omega,hi];rfl
  rw [Uv F hg hw]
  have h1:(runM (b0 x) w &&& (b0 x).la !=0#32)=true ↔ ∃q,(runM (b0 x) w).getLsbD q=true∧(b0 x).la.getLsbD q=true:=by
   rw [bne_iff_ne]
   constructor
   ·intro h
    by_cases hb:ar (runM (b0 x) w &&& (b0 x).la)=[]
    ·exact absurd (oO hb) h
    ·obtain ⟨q,hq⟩:=XS _ hb
     have:=aT.1 hq
     rw [Xk,VS] at this;exact ⟨q,this⟩
   ·rintro ⟨q,h1,h2⟩ e
    have:(runM (b0 x) w &&& (b0 x).la).getLsbD q=true:=by rw [Xk,h1,h2];rfl
    rw [e] at this;simp at this
  rw [h1]
  cases w with
  | nil=>exact absurd rfl hw
  | cons a v=>
   simp only [ct]
   have hst: ∀p,(ofM 0).getLsbD p=true↔p=0:=fun p=>by rw [nJ,decide_eq_true_eq];omega
   have hc: ∀(v:List ByteArray) p q,p≠0->(a7 (fun p q=>((b0 x).fs.getD p 0#32).getLsbD q=true) (fun p=>fq (b0 x) p) p v q↔a7 (jd x 0) (fun p=>fq (b0 x) p) p v q):=fun v=>by
    induction v with
    | nil=>intro p q _;exact Iff.rfl
    | cons b v ih=>
     intro p q hp;simp only [a7]
     constructor
     ·rintro ⟨r,k1,k2,k3⟩;have k4:=(N.rp p r hp).1 k1
      have:=(dr x k4).2
      exact ⟨r,k4,k2,(ih r q (by omega)).1 k3⟩
     ·rintro ⟨r,k1,k2,k3⟩
      have:=(dr x k1).2
      exact ⟨r,(N.rp p r hp).2 k1,k2,(ih r q (by omega)).2 k3⟩
   constructor
   ·rintro ⟨q,h2,h3⟩;obtain ⟨p,k1,r,k2,k3,k4⟩:=(run_get N.ok _ _).1 h2;obtain rfl:=(hst p).1 k1;have k5:=(N.fst r).1 k2
    have:=fI x k5
    exact ⟨r,q,k5,k3,(hc v r q (by omega)).1 k4,(N.wN q).1 h3⟩
   ·rintro ⟨r,q,k1,k2,k3,k4⟩
    have:=fI x k1
    exact ⟨q,(run_get N.ok _ _).2 ⟨0,(hst 0).2 rfl,r,(N.fst r).2 k1,k2,(hc v r q (by omega)).2 k3⟩,(N.wN q).2 k4⟩
theorem JN {m n:BitVec 32} (h: ∀q,m.getLsbD q=true↔n.getLsbD q=true):m=n:=by
 refine BitVec.eq_of_getLsbD_eq fun q _=> ?_;exact Xt.2 (h q)
def kp (l:List Nat):List Int:=l.map (fun (p:Nat)=>(p:Int))
theorem DV (l:List Nat):aj l=(kp l).map encI:=by rw [aj,kp,List.map_map];rfl
theorem tX (l:List Nat):(kp l).length=l.length:=by rw [kp,List.length_map]
theorem Al {s:bN} (ok:wZ s) {m:BitVec 32} (h: ∀p,m.getLsbD p=true->p<=s.af.length):gH s (kp (ar m))=m:=by
 refine JN fun q=> ?_;rw [gH,lG ok,kp];simp only [BitVec.getLsbD_zero,Bool.false_eq_true,false_or,List.mem_map,Int.natCast_inj,exists_eq_right,aT];exact ⟨fun h=>h.1,fun k=>⟨k,h q k⟩⟩
theorem yq {p:Nat}:(ofM 0).getLsbD p=true↔p=0:=by rw [nJ,decide_eq_true_eq];omega
def Jv (a b:List Nat):Bool:=a.any (fun p=>b.any (fun q=>(q:Int)==(p:Int)))
theorem qM {a b:List Nat}:Jv a b=true ↔ ∃p,p∈a∧p∈b:=by
 simp only [Jv,List.any_eq_true,beq_iff_eq,Int.natCast_inj]
 constructor
 ·rintro ⟨p,h1,q,h2,rfl⟩;exact ⟨q,h1,h2⟩
 ·rintro ⟨p,h1,h2⟩;exact ⟨p,h1,p,h2,rfl⟩
theorem BT (m n:BitVec 32):(m &&& n !=0#32)=Jv (ar m) (ar n):=by
 rw [Xt,qM,bne_iff_ne];simp only [aT]
 constructor
 ·intro h
  by_cases hb:ar (m &&& n)=[]
  ·exact absurd (oO hb) h
  ·obtain ⟨q,hq⟩:=XS _ hb
   have:=aT.1 hq
   rw [Xk,VS] at this;exact ⟨q,this⟩
 ·rintro ⟨q,h1,h2⟩ e
  have:(m &&& n).getLsbD q=true:=by rw [Xk,h1,h2];rfl
  rw [e] at this;simp at this
theorem Gv {s:bN} (ok:wZ s) (w:List ByteArray):((w.length==0&&s.em)||Jv (ar (runM s w)) (ar s.la))=sE s w:=by
 rw [sE, <- BT]
 by_cases h0:w.length=0
 ·rw [if_pos h0,h0];obtain rfl:=VF h0
  have:(runM s [] &&& s.la !=0#32)=false:=by
   rw [BT, <- Bool.not_eq_true,qM];rintro ⟨p,h1,h2⟩;have h3:=yq.1 (aT.1 h1)
   have:=ok.la p (aT.1 h2)
   omega
  rw [this];simp
 ·rw [if_neg h0,beq_eq_false_iff_ne.2 h0];simp
theorem xR {x:Ex} (h:Fit x): ∀b, ∃q,ly x b q:=by
 induction h with
 | lab s=>intro b;exact ⟨b+1,by rw [ly,if_pos rfl]⟩
 | many k s l hk hl _ ih=>
  intro b
  cases l with
  | nil=>simp at hl
  | cons x l=>
   obtain ⟨q,hq⟩:=ih x (by simp) b;refine ⟨q, ?_⟩;rw [ly]
   rcases hk with rfl|rfl
   ·simp [gw,hq]
   ·simp [fW,hq]
 | one k s x hk _ ih=>
  intro b;obtain ⟨q,hq⟩:=ih b;refine ⟨q, ?_⟩;rw [ly]
  rcases hk with rfl|rfl|rfl<;>simp [fW,hq]
theorem vo {g:Nat->ByteArray}: ∀(l:List Ex),l≠[]->(∀x∈l,Fit x∧ ∀b p,b<p->p<=b+(bj x).length-> ∃w q,a7 (jd x b) g p w q∧jA x b q)-> ∀b p,b<p->p<=b+(aP l).length-> ∃w q,a7 (gv l b) g p w q∧je l b q
 | [],h,_,_,_,_,_=>absurd rfl h
 | x :: xs,_,h,b,p,h1,h2=>by
  rw [aP,U8] at h2;have hS: ∀w p q,a7 (gv xs (b+(bj x).length)) g p w q->a7 (gv (x :: xs) b) g p w q:=fun w p q hc=>hc.imp (fun p q hf=>by rw [gv];exact .inr (.inl hf));have hX: ∀w p q,a7 (jd x b) g p w q->a7 (gv (x :: xs) b) g p w q:=fun w p q hc=>hc.imp (fun p q hf=>by rw [gv];exact .inl hf)
  rcases Nat.lt_or_ge (b+(bj x).length) p with q|q
  ·have hne:xs≠[]:=by rintro rfl;simp [aP] at h2;omega
   obtain ⟨w,r,k1,k2⟩:=vo xs hne (fun y hy=>h y (V2 _ hy)) _ p q (by omega);exact ⟨w,r,hS _ _ _ k1,by rw [je];exact .inr k2⟩
  ·obtain ⟨w,r,k1,k2⟩:=(h x V4).2 b p h1 q
   cases hxs:xs with
   | nil=>subst hxs;exact ⟨w,r,hX _ _ _ k1,by rw [je];exact .inl ⟨rfl,k2⟩⟩
   | cons y ys=>
    obtain ⟨f,hf⟩:=xR (h y (by rw [hxs];simp)).1 (b+(bj x).length)
    have hfS:gw xs (b+(bj x).length) f:=by rw [hxs,gw];exact .inl hf
    have hr:=eu (oz hfS);obtain ⟨w2,r2,m1,m2⟩:=vo xs (by rw [hxs];simp) (fun y hy=>h y (V2 _ hy)) _ f hr.1 hr.2;rw [<-hxs];exact ⟨w++g f :: w2,r2,a7.app.2 ⟨r,hX _ _ _ k1,f,by rw [gv];exact .inr (.inr ⟨k2,hfS⟩),rfl,hS _ _ _ m1⟩,by rw [je];exact .inr m2⟩
theorem vn {g:Nat->ByteArray}: ∀(l:List Ex),(∀x∈l, ∀b p,b<p->p<=b+(bj x).length-> ∃w q,a7 (jd x b) g p w q∧jA x b q)-> ∀b p,b<p->p<=b+(aP l).length-> ∃w q,a7 (iA l b) g p w q∧fX l b q
 | [],_,b,p,h1,h2=>by simp [aP] at h2;omega
 | x :: xs,h,b,p,h1,h2=>by
  rw [aP,U8] at h2
  rcases Nat.lt_or_ge (b+(bj x).length) p with q|q
  ·obtain ⟨w,r,k1,k2⟩:=vn xs (fun y hy=>h y (V2 _ hy)) _ p q (by omega);exact ⟨w,r,k1.imp (fun p q hf=>by rw [iA];exact .inr hf),by rw [fX];exact .inr k2⟩
  ·obtain ⟨w,r,k1,k2⟩:=h x V4 b p h1 q;exact ⟨w,r,k1.imp (fun p q hf=>by rw [iA];exact .inl hf),by rw [fX];exact .inl k2⟩
theorem OP {g:Nat->ByteArray} {x:Ex} (h:Fit x): ∀b p,b<p->p<=b+(bj x).length-> ∃w q,a7 (jd x b) g p w q∧jA x b q:=by
 induction h with
 | lab s=>
  intro b p h1 h2;rw [bj,if_pos rfl] at h2;exact ⟨[],p,rfl,by rw [jA,if_pos rfl];simp at h2;omega⟩
 | many k s l hk hl hf ih=>
  intro b p h1 h2
  have hk1:k≠1:=by rcases hk with rfl|rfl<;>decide
  rw [dA hk1] at h2
  rcases hk with rfl|rfl
  ·obtain ⟨w,r,k1,k2⟩:=vo l (by rintro rfl;simp at hl) (fun x hx=>⟨hf x hx,ih x hx⟩) b p h1 h2;exact ⟨w,r,k1.imp (fun p q hf=>by rw [jd,if_neg (by decide),if_pos rfl];exact hf),by rw [jA,if_neg (by decide),if_pos rfl];exact k2⟩
  ·obtain ⟨w,r,k1,k2⟩:=vn l ih b p h1 h2;exact ⟨w,r,k1.imp (fun p q hf=>by rw [jd,if_neg (by decide),if_neg (by decide)];exact .inl hf),by rw [jA,if_neg (by decide),if_neg (by decide)];exact k2⟩
 | one k s x hk hf ih=>
  intro b p h1 h2
  have hk1:k≠1:=by rcases hk with rfl|rfl|rfl<;>decide
  have hk2:k≠2:=by rcases hk with rfl|rfl|rfl<;>decide
  rw [dA hk1] at h2;obtain ⟨w,r,k1,k2⟩:=vn [x] (fun y hy=>by simp only [List.mem_singleton] at hy;subst hy;exact ih) b p h1 h2;exact ⟨w,r,k1.imp (fun p q hf=>by rw [jd,if_neg hk1,if_neg hk2];exact .inl hf),by rw [jA,if_neg hk1,if_neg hk2];exact k2⟩
def bK (s:bN) (cur:List Nat) (lab:ByteArray):List Nat:=ar (iv s (gH s (kp cur)) lab)
theorem tS {s:bN} (ok:wZ s) {l:List Nat} {q:Nat}:(gH s (kp l)).getLsbD q=true↔q∈l∧q<=s.af.length:=by
 rw [gH,lG ok]
 have:(q:Int)∈kp l↔q∈l:=by
  rw [kp,List.mem_map];exact ⟨fun ⟨a,h1,h2⟩=>by rw [<-Int.ofNat_inj.1 h2];exact h1,fun h=>⟨q,h,rfl⟩⟩
 simp [this]
theorem jv {s:bN} (ok:wZ s) {cur:List Nat} {lab:ByteArray} {q:Nat}:q∈bK s cur lab ↔ ∃p,p∈cur∧p<=s.af.length∧(s.fs.getD p 0#32).getLsbD q=true∧fq s q=lab:=by
 rw [bK,aT,lT ok]
 constructor
 ·rintro ⟨p,h1,h2,h3⟩;obtain ⟨k1,k2⟩:=(tS ok).1 h1;exact ⟨p,k1,k2,h2,toList_inj.1 (by simpa using h3)⟩
 ·rintro ⟨p,h1,h2,h3,rfl⟩;exact ⟨p,(tS ok).2 ⟨h1,h2⟩,h3,rfl⟩
theorem Br {s:bN} (ok:wZ s) {m:BitVec 32} (hm: ∀p,m.getLsbD p=true->p<=s.af.length) (lab:ByteArray):bK s (ar m) lab=ar (iv s m lab):=by rw [bK,Al ok hm]
theorem IA {s:bN} (ok:wZ s) {m:BitVec 32} {lab:ByteArray}: ∀p,(iv s m lab).getLsbD p=true->p<=s.af.length:=fun p h=>by
 obtain ⟨_,_,h,_⟩:=(lT ok).1 h;exact (ok.rp _ _ h).2
theorem uJ {s:bN} (ok:wZ s): ∀(w:List ByteArray) (m:BitVec 32),(∀p,m.getLsbD p=true->p<=s.af.length)->w.foldl (bK s) (ar m)=ar (w.foldl (iv s) m)
 | [],m,_=>rfl
 | l :: w,m,h=>by rw [WJ,WJ,Br ok h,uJ ok w _ (IA ok)]
structure mW where
 rows:List bn
 ends:List Bool
 af:List ByteArray
noncomputable def uD (x:Ex) (af:List ByteArray):Option mX:=sx (bK (b0 x)) (b0 x).em (ar (b0 x).la) af
def jV (af:List ByteArray) (st:mX):mW:=⟨(c8 st.rows st.ends (cG st.rows st.ends)).rows,(c8 st.rows st.ends (cG st.rows st.ends)).ends,af⟩
noncomputable def dE (x:Ex) (af:List ByteArray):mW ⊕ Int:=
 if aI x then match uD x af with
  | some st=>if 32<(jV af st).rows.length then .inr 11 else .inl (jV af st)
  | none=> .inr 11
 else .inr 2
structure AOk (A:mW):Prop where
 pos:1<=A.rows.length
 max:A.rows.length<=32
 ends:A.ends.length=A.rows.length
 row: ∀r∈A.rows,(r.map Prod.fst).Sublist A.af∧ ∀p∈r,p.2<A.rows.length
theorem uG {af:List ByteArray} {st:mX} (ho:Dl af st) (hl:st.rows.length=st.all.length): ∀r∈st.rows, ∀p∈r,p.2<st.rows.length:=fun r hr p hp=>by rw [hl];exact (ho.row r hr).2 p hp
theorem K7 {af:List ByteArray} (hn:af.Nodup) {st:mX} (ho:Dl af st): ∀r∈st.rows,(r.map Prod.fst).Nodup:=fun r hr=>(ho.row r hr).1.nodup hn
theorem uF {af:List ByteArray} (hs: ∀l∈af,32∉l.data.toList) {st:mX} (ho:Dl af st):Cl st.rows:=fun r hr p hp=>hs _ ((ho.row r hr).1.subset (List.mem_map_of_mem hp))
structure Fp (x:Ex) (A:mW):Prop extends AOk A where
 Qm: ∀w,c6 A.rows A.ends 0 w=ei x w
 alive: ∀s,s<A.rows.length-> ∃w,c6 A.rows A.ends s w=true
theorem Ca {s:bN} (ok:wZ s): ∀(w:List ByteArray) {cur:List Nat} {p q:Nat},p∈cur->p<=s.af.length->a7 (fun p q=>(s.fs.getD p 0#32).getLsbD q=true) (fun p=>fq s p) p w q->q∈w.foldl (bK s) cur
 | [],cur,p,q,h1,h2,h3=>by cases h3;exact h1
 | l :: w,cur,p,q,h1,h2,⟨r,k1,k2,k3⟩=>by
  rw [WJ];exact Ca ok w ((jv ok).2 ⟨p,h1,h2,k1,k2⟩) (ok.rp _ _ k1).2 k3
theorem DD {x:Ex} (hr:aI x=true) {af:List ByteArray} (hn:af.Nodup) (hs: ∀l∈af,32∉l.data.toList) (hm: ∀l∈bj x,l∈af) {A:mW} (h:dE x af = .inl A):Fp x A:=by
 have N:=nI hr;have F:=(js hr).1;rw [dE,if_pos hr] at h
 split at h
 ·rename_i st hst
  split at h
  ·cases h
  ·rename_i h32;simp only [Sum.inl.injEq] at h;obtain ⟨ho,hl,hw⟩:=CD (bK (b0 x)) (b0 x).em (ar (b0 x).la) hn hst;have hz0:(st.all)[0]? = some [0]:=hw.zero
   have hpos:0<st.rows.length:=by rw [hl];exact (List.getElem?_eq_some_iff.1 hz0).1
   have hT:=uG ho hl;have hN:=K7 hn ho;obtain ⟨hS,hpl⟩:=sc st.rows st.ends (uF hs ho) hT hpos ho.ends;obtain ⟨qo,ql,qw⟩:=G7 (ends:=st.ends) hT hN hpos (cG st.rows st.ends)
   have ha: ∀l,bK (b0 x) [] l=[]:=fun l=>XT.2 fun q hq=>by
    obtain ⟨p,hp,_⟩:=(jv N.ok).1 hq;simp at hp
   have hlab: ∀q,1<=q->q<=(b0 x).af.length->fq (b0 x) q∈af:=fun q h1 h2=>by
    rw [fq,if_pos (by omega)];refine hm _ ?_;rw [<-N.af];exact bQ (by omega)
   have hx: ∀cur l,l∉af->bK (b0 x) cur l=[]:=fun cur l hl=>XT.2 fun q hq=>by
    obtain ⟨p,_,_,k,rfl⟩:=(jv N.ok).1 hq;obtain ⟨q1,q2⟩:=N.ok.rp _ _ k;exact hl (hlab q q1 q2)
   have h0: ∀cur l,0∉bK (b0 x) cur l:=fun cur l hq=>by
    obtain ⟨p,_,_,k,_⟩:=(jv N.ok).1 hq
    have:=(N.ok.rp _ _ k).1;omega
   have hla:0∉ar (b0 x).la:=fun hq=>by have:=(N.ok.la _ (aT.1 hq)).1;omega
   have hlen:A.rows.length=(c8 st.rows st.ends (cG st.rows st.ends)).order.length:=by rw [<-h];exact ql
   have hA: ∀k w,k<A.rows.length->c6 A.rows A.ends k w=c6 st.rows st.ends ((c8 st.rows st.ends (cG st.rows st.ends)).order.getD k 0) w:=fun k w hk=>by
    rw [<-h];exact pL hT hS qo ql qw w (by rw [<-hlen];exact hk)
   have hp1:1<=A.rows.length:=by
    rw [hlen]
    have:=qo.le;rw [ql] at this
    refine Nat.one_le_iff_ne_zero.2 fun e=> ?_;have q0:=yD (rows:=st.rows) (part:=cG st.rows st.ends) (ends:=st.ends) (st.rows.length+1) (st:=q0)
    have:1<=(c8 st.rows st.ends (cG st.rows st.ends)).order.length:=q0
    omega
   refine ⟨⟨hp1, ?_, ?_,fun r hr=> ?_⟩,fun w=> ?_,fun s hs=> ?_⟩
   ·have:=h32;rw [h] at this;omega
   ·rw [<-h];exact qo.ends
   ·obtain ⟨k,hk,rfl⟩:=List.getElem_of_mem hr
    have hk':k<(c8 st.rows st.ends (cG st.rows st.ends)).rows.length:=by rw [<-h] at hk;exact hk
    obtain ⟨r1,r2⟩:=qo.row k hk'
    have e:A.rows[k]=(c8 st.rows st.ends (cG st.rows st.ends)).rows.getD k []:=by
     subst h;rw [List.getD_eq_getElem?_getD,Vi hk'];rfl
    have hlabs:A.af=af:=by rw [<-h];rfl
    rw [e,r1,hlabs,hlen];exact ⟨(ho.row _ (bQ (qo.lt _ (bQ (by rw [<-ql];exact hk'))))).1,r2⟩
   ·rw [hA 0 w (by omega),qw.zero,Bl hl hw ha hx h0 hla, <- E4 hr, <- Gv N.ok]
    have e0:([0]:List Nat)=ar (ofM 0):=by rfl
    rw [e0,uJ N.ok w (ofM 0) (fun p hp=>by rw [yq] at hp;omega)]
    congr 1
    rw [Bool.eq_iff_iff,qM,List.any_eq_true];simp [runM]
   ·rw [hlen] at hs;have hi:=qo.lt _ (bQ (d:=0) hs)
    have hi':(c8 st.rows st.ends (cG st.rows st.ends)).order.getD s 0<st.all.length:=by omega
    obtain ⟨hne,hmade⟩:=EY (bK (b0 x)) (b0 x).em (ar (b0 x).la) hst _ (WA hi');obtain ⟨p,hp⟩:=List.exists_mem_of_ne_nil _ hne
    have hpb:p<=(b0 x).af.length:=by
     rcases hmade with e|⟨cur,l,e⟩
     ·rw [e] at hp;simp at hp;omega
     ·rw [e] at hp;obtain ⟨_,_,_,k,_⟩:=(jv N.ok).1 hp;exact (N.ok.rp _ _ k).2
    obtain ⟨w,q,hc,hq⟩: ∃w q,a7 (fun p q=>((b0 x).fs.getD p 0#32).getLsbD q=true) (fun p=>fq (b0 x) p) p w q∧jA x 0 q:=by
     have up: ∀p,0<p->p<=(b0 x).af.length-> ∃w q,a7 (fun p q=>((b0 x).fs.getD p 0#32).getLsbD q=true) (fun p=>fq (b0 x) p) p w q∧jA x 0 q:=fun p h1 h2=>by
      obtain ⟨w,q,k1,k2⟩:=OP (g:=fun p=>fq (b0 x) p) F 0 p h1 (by rw [<-N.af];omega)
      have:=a7.stay (S:=fun p=>p≠0) (F:=fun p q=>((b0 x).fs.getD p 0#32).getLsbD q=true) (fun p q hp hf=>⟨(N.rp p q hp).2 hf,by have:=(dr x hf).2;omega⟩) (by omega) k1
      exact ⟨w,q,this.1,k2⟩
     by_cases e:p=0
     ·subst e;obtain ⟨f,hf⟩:=xR F 0;have hfr:=fI x hf;obtain ⟨w,q,k1,k2⟩:=up f (by omega) (by rw [N.af];omega);exact ⟨_ :: w,q,⟨f,(N.fst f).2 hf,rfl,k1⟩,k2⟩
     ·exact up p (by omega) hpb
    refine ⟨w, ?_⟩;rw [hA s w (by rw [hlen];exact hs)];exact EX hl hw ha hx w (Vi hi') hne (Ca N.ok w hp hpb hc) (aT.2 ((N.wN q).2 hq))
 ·cases h
def F7:Go.Shelf.Ren:=⟨fun|169=>152|n=>n,fun|70=>228|9=>9|0=>0|72=>231|37=>229|127=>278|3=>3|5=>5|n=>n,fun n=>n⟩
theorem JP:Lays.n169 Tryz.prog F7:={
 mixed:=by kernel_rfl
 f169:=Tryz.func152
 t0:=by kernel_rfl
 a0:=fun w=>by kernel_rfl
 z0:=fun w=>by kernel_rfl
 v0:=fun w=>by kernel_rfl
 t3:=by kernel_rfl
 a3:=fun w=>by kernel_rfl
 z3:=fun w=>by kernel_rfl
 v3:=fun w=>by kernel_rfl
 t9:=by kernel_rfl
 a9:=fun w=>by kernel_rfl
 z9:=fun w=>by kernel_rfl
 v9:=fun w=>by kernel_rfl
 t37:=by kernel_rfl
 a37:=fun w=>by kernel_rfl
 z37:=fun w=>by kernel_rfl
 v37:=fun w=>by kernel_rfl
 t70:=by kernel_rfl
 a70:=fun w=>by kernel_rfl
 z70:=fun w=>by kernel_rfl
 v70:=fun w=>by kernel_rfl
 t72:=by kernel_rfl
 a72:=fun w=>by kernel_rfl
 z72:=fun w=>by kernel_rfl
 v72:=fun w=>by kernel_rfl
 t127:=by kernel_rfl
 a127:=fun w=>by kernel_rfl
 z127:=fun w=>by kernel_rfl
 v127:=fun w=>by kernel_rfl }
def Cd:Go.Shelf.Ren:=⟨fun|171=>151|243=>199|246=>219|283=>225|284=>226|285=>227|286=>228|129=>172|317=>233|318=>234|319=>235|320=>236|337=>214|338=>237|n=>n,fun|3=>3|9=>9|2=>2|4=>4|171=>303|0=>0|53=>256|37=>229|5=>5|173=>305|212=>311|51=>184|20=>20|213=>312|46=>212|232=>301|233=>313|n=>n,fun|17=>1|18=>0|19=>2|n=>n⟩
theorem ua:Lays.n171 Tryz.prog Cd:={
 mixed:=by kernel_rfl
 f129:=Tryz.func172
 f171:=Tryz.func151
 f243:=Tryz.func199
 f246:=Tryz.func219
 f283:=Tryz.func225
 f284:=Tryz.func226
 f285:=Tryz.func227
 f286:=Tryz.func228
 f317:=Tryz.func233
 f318:=Tryz.func234
 f319:=Tryz.func235
 f320:=Tryz.func236
 f337:=Tryz.func214
 f338:=Tryz.func237
 t0:=by kernel_rfl
 a0:=fun w=>by kernel_rfl
 z0:=fun w=>by kernel_rfl
 v0:=fun w=>by kernel_rfl
 t2:=by kernel_rfl
 a2:=fun w=>by kernel_rfl
 z2:=fun w=>by kernel_rfl
 v2:=fun w=>by kernel_rfl
 t3:=by kernel_rfl
 a3:=fun w=>by kernel_rfl
 z3:=fun w=>by kernel_rfl
 v3:=fun w=>by kernel_rfl
 t4:=by kernel_rfl
 a4:=fun w=>by kernel_rfl
 z4:=fun w=>by kernel_rfl
 v4:=fun w=>by kernel_rfl
 t5:=by kernel_rfl
 a5:=fun w=>by kernel_rfl
 z5:=fun w=>by kernel_rfl
 v5:=fun w=>by kernel_rfl
 t9:=by kernel_rfl
 a9:=fun w=>by kernel_rfl
 z9:=fun w=>by kernel_rfl
 v9:=fun w=>by kernel_rfl
 t20:=by kernel_rfl
 a20:=fun w=>by kernel_rfl
 z20:=fun w=>by kernel_rfl
 v20:=fun w=>by kernel_rfl
 t37:=by kernel_rfl
 a37:=fun w=>by kernel_rfl
 z37:=fun w=>by kernel_rfl
 v37:=fun w=>by kernel_rfl
 t46:=by kernel_rfl
 a46:=fun w=>by kernel_rfl
 z46:=fun w=>by kernel_rfl
 v46:=fun w=>by kernel_rfl
 t51:=by kernel_rfl
 a51:=fun w=>by kernel_rfl
 z51:=fun w=>by kernel_rfl
 v51:=fun w=>by kernel_rfl
 t53:=by kernel_rfl
 a53:=fun w=>by kernel_rfl
 z53:=fun w=>by kernel_rfl
 v53:=fun w=>by kernel_rfl
 t171:=by kernel_rfl
 a171:=fun w=>by kernel_rfl
 z171:=fun w=>by kernel_rfl
 v171:=fun w=>by kernel_rfl
 t173:=by kernel_rfl
 a173:=fun w=>by kernel_rfl
 z173:=fun w=>by kernel_rfl
 v173:=fun w=>by kernel_rfl
 t212:=by kernel_rfl
 a212:=fun w=>by kernel_rfl
 z212:=fun w=>by kernel_rfl
 v212:=fun w=>by kernel_rfl
 t213:=by kernel_rfl
 a213:=fun w=>by kernel_rfl
 z213:=fun w=>by kernel_rfl
 t232:=by kernel_rfl
 a232:=fun w=>by kernel_rfl
 z232:=fun w=>by kernel_rfl
 v232:=fun w=>by kernel_rfl
 t233:=by kernel_rfl
 a233:=fun w=>by kernel_rfl
 z233:=fun w=>by kernel_rfl
 v233:=fun w=>by kernel_rfl
 g17:=by kernel_rfl
 g18:=by kernel_rfl
 g19:=by kernel_rfl }
theorem GS:LaysM.n171 Tryz.prog Cd:={ ua with
 i0:=by kernel_rfl
 i2:=by kernel_rfl
 i3:=by kernel_rfl
 i4:=by kernel_rfl
 i5:=by kernel_rfl
 i9:=by kernel_rfl
 i20:=by kernel_rfl
 i37:=by kernel_rfl
 i46:=by kernel_rfl
 i51:=by kernel_rfl
 i53:=by kernel_rfl
 i171:=by kernel_rfl
 i173:=by kernel_rfl
 i212:=by kernel_rfl
 i232:=by kernel_rfl
 i233:=by kernel_rfl
 m17:=by kernel_rfl
 m18:=by kernel_rfl
 m19:=by kernel_rfl }
theorem F1:(Tryz.prog.info? 231).map (·.size)=some 2:=by kernel_rfl
theorem LC:liesAt Tryz.prog Tryz.prog.depth 231 (2 / Tryz.prog.cellsOf 231) 0 231 1=true:=by kernel_rfl
theorem LB:(Tryz.prog.info? 5).map (fun i=>(i.zero,i.size,i.bytes))=some (some (.int .u8 0),1,1):=by kernel_rfl
theorem Mu:Builder.Extra Tryz.prog F7:={ sizeBuilder:=F1,liesBuilder:=LC,t5:=by kernel_rfl,a5:=fun w=>by kernel_rfl,z5:=fun w=>by kernel_rfl,v5:=fun w=>by kernel_rfl,infoByte:=LB,cellsByte:=by kernel_rfl,sizeByte:=by kernel_rfl,neB5:=by decide }
theorem S5:Tryz.prog.underlying 228=some (.pointer 231):=by kernel_rfl
theorem TU:Tryz.prog.underlying 292=some .unsafePointer:=by kernel_rfl
theorem s7 (b:Nat) (w:World) (h0:w.cell? ⟨b,0,none⟩=some (.pointer none)) (hsh:w.shape? b=some (231,2)) (hfz:w.frozen? ⟨b,0,none⟩=false) :
  Calls Tryz.prog 198 #[.pointer (some ⟨b,0,none⟩)] w fun e w'=>e = .returned (.tuple #[])∧w'=w.setCell ⟨b,0,none⟩ (.pointer (some ⟨b,0,none⟩)):=by
 obtain ⟨j,hj,hjs⟩:=VM.1 F1
 go_enter Tryz.func198,Tryz.ntmps198
 go_wp2
 rw [Lib.run_to_unsafe w ⟨b,0,none⟩ S5 TU hj (by rw [hjs];decide) hsh (Nat.zero_lt_succ 1)];simp only [Result.andThen];rw [Oper.upon_value]
 go_wp2
 rw [run_callFunc_extern Tryz.func218 (by kernel_rfl) (by kernel_rfl) (by kernel_rfl) (e:=Extern.AbiNoEscape.same) (by kernel_rfl)];rw [Lib.run_noEscape];simp only [Result.andThen];rw [Oper.upon_value]
 go_wp2
 rw [Lib.run_from_unsafe w ⟨b,0,none⟩ TU S5 hj hsh LC];simp only [Result.andThen];rw [Oper.upon_value]
 go_wp2
 go_end0
 exact ⟨rfl,rfl⟩
theorem vt (b:Nat) (w:World) (h0:w.cell? ⟨b,0,none⟩=some (.pointer (some ⟨b,0,none⟩))) :
  Calls Tryz.prog 198 #[.pointer (some ⟨b,0,none⟩)] w fun e w'=>e = .returned (.tuple #[])∧w'=w:=by
 obtain ⟨j,hj,_⟩:=VM.1 F1
 go_enter Tryz.func198,Tryz.ntmps198
 go_wp2
 rw [Lib.run_neq_ptr_same w _ S5 hj]
 go_wp2
 go_end0
 exact ⟨rfl,rfl⟩
abbrev Ov (B b:Nat) (bs:List Value) (w:World):Prop:=Lib.IsBuilderF 231 5 B b bs w
theorem s6 (B b:Nat) (bs:List Value) (w:World) (h:Ov B b bs w) :
  Calls Tryz.prog 198 #[.pointer (some ⟨b,0,none⟩)] w fun e w'=>e = .returned (.tuple #[])∧Lib.BuilderAtF 231 5 B b (.pointer (some ⟨b,0,none⟩)) bs w'∧Below B w w':=by
 rcases h with h|h
 ·refine (s7 b w h.cell0 h.shape h.frozen0).mono ?_;rintro e w' ⟨rfl,rfl⟩;exact ⟨rfl,h.used _,(Below.refl B w).setCell (p:=⟨b,0,none⟩) h.1 _⟩
 ·refine (vt b w h.cell0).mono ?_;rintro e w' ⟨rfl,rfl⟩;exact ⟨rfl,h,Below.refl B _⟩
theorem NB:Tryz.prog.underlying 229=some (.slice 5):=by kernel_rfl
theorem Qu:Tryz.prog.underlying 9=some .string:=by kernel_rfl
theorem BA (B b:Nat) (bs:List Value) (s:ByteArray) (w:World) (h:Ov B b bs w) (hlen:bs.length+s.size<=140737488355328) (hBw:B<=w.heap.size) :
  Calls Tryz.prog 150 #[.pointer (some ⟨b,0,none⟩), .string s] w fun e w'=>e = .returned (.tuple #[.int .i64 s.size, .nilIface])∧Ov B b (bs++Lib.strCells s) w'∧Below B w w':=by
 obtain ⟨i0,hi,hz0,hz1,hz2⟩:=info_parts LB
 go_enter Tryz.func150,Tryz.ntmps150
 go_wp2_with fail
 refine (s6 B b bs _ h).mono ?_;rintro e w1 ⟨rfl,h1,hb1⟩;obtain ⟨hB,v,hbk,hown,hne⟩:=h1;have hlt:b<w1.heap.size:=(Array.getElem?_eq_some_iff.1 hbk).1
 have c0:w1.cell? ⟨b,0,none⟩=some (.pointer (some ⟨b,0,none⟩)):=by rw [Lib.cell_of_heap hbk];rfl
 have c1:w1.cell? ⟨b,1,none⟩=some v:=by rw [Lib.cell_of_heap hbk];rfl
 go_wp2_with (at_builtin;refine Lib.wpList_append_own_stringF _ rfl _ _ 229 9 rfl B 5 i0 NB Qu hi hz0 hz1 hz2 _ _ _ rfl hown s rfl ?c3 ?c4 ?c5 ?_)
 case c3=>unfold maxLen;omega
 case c4=>omega
 case c5=>have:=hb1.size;omega
 intro v' w2 hown' hgrow _;have hb2:w2.heap[b]? = some (.cells #[.pointer (some ⟨b,0,none⟩),v] 231 (0,0)):=(hgrow.block b hlt (fun e=>hne e.symm)).trans hbk
 have d0:w2.cell? ⟨b,0,none⟩=some (.pointer (some ⟨b,0,none⟩)):=by rw [Lib.cell_of_heap hb2];rfl
 have d1:w2.cell? ⟨b,1,none⟩=some v:=by rw [Lib.cell_of_heap hb2];rfl
 have f1:w2.frozen? ⟨b,1,none⟩=false:=Lib.frozen_of_heap hb2 1
 obtain ⟨ao,n',cap,rfl⟩: ∃ao n' cap,v' = .slice ao n' cap:=by
  rcases hown'.2 with ⟨hv,_⟩|⟨g,cap,cur,fz,hv,_⟩<;>exact ⟨_,_,_,hv⟩
 go_wp2
 go_ret2
 refine ⟨rfl, .inr (Lib.BuilderAtF.put (T:=231) (e:=5) hB hb2 (bs':=bs++Lib.strCells s) (by simpa [Lib.strCells_length] using hown') (by decide)), ?_⟩;exact (hb1.grown hgrow (by have:=hb1.size;omega) (fun k hk=>(hown.lt k hk).1)).setCell (p:=⟨b,1,none⟩) hB _
def OB (n:Nat) (cs:List Value):Prop:=cs=[.int .i64 (n:Nat)]
abbrev FC (w:World) (l:List Nat) (v:Value):Prop:=dV w 1 OB l v
theorem ER {w:World} {xs:List Nat} {p:Option Addr} {n cap:Nat} (h:FC w xs (.slice p n cap)) {k:Nat} (hk:k<xs.length) :
  ∃b o,p=some ⟨b,o,none⟩∧w.cell? ⟨b,o+k,none⟩=some (.int .i64 (xs[k]:Nat)):=by
 obtain ⟨b,o,cs,hp,hr,hc⟩:=dV.at h hk;subst hr;rw [Nat.mul_one] at hc;replace hc:=iK hc;exact ⟨b,o,hp,by simpa using hc 0 _ rfl⟩
theorem Ei (l:List Nat) (n:Nat):jU (l++[n])=jU l++(Lib.decDigits n++[32]):=by simp [jU]
theorem GY (l:List Nat) (hs: ∀n∈l,n<1000):(jU l).length<=4 * l.length:=by
 induction l with
 | nil=>simp [jU]
 | cons a l ih=>
  have h1:=rb a (hs a V4);have h2:=ih (fun n hn=>hs n (V2 _ hn));simp only [jU,List.flatMap_cons,U8,List.length_cons,List.length_nil] at *;omega
theorem Ki (l:List Nat) (hs: ∀n∈l,n<100) (hl:l.length<=1000000) (v:Value) (w:World) (h1:FC w l v):Calls Tryz.prog 118 #[v] w (Dj w (.string (iZ l))):=by
 obtain ⟨p,c,rfl,hc1,hc2⟩:=h1.shape;unfold maxLen at hc2;have H1:=Lib.hid h1;have HS:=Lib.hid hs;clear h1 hs
 go_enter Tryz.func118,Tryz.ntmps118
 go_wp2_with fail
 go_loopw [8] (fun i wr=> ∃k:Nat,k<=l.length∧i = .int .i64 k∧Below w.heap.size w wr∧Ov w.heap.size w.heap.size (Lib.byteCells (jU (l.take k))) wr) (fun i _=>l.length - (intOf i).toNat)
 case atStart=>exact ⟨0,Nat.zero_le _,rfl,(Below.refl _ w).alloc (Nat.le_refl _) _,by rw [List.take_zero];exact Lib.IsBuilderF.of (Lib.fresh_isBuilder 231 5 w)⟩
 case round=>
  obtain ⟨k,hk,rfl,hb,hI⟩:=hrel;have HB:=Lib.hid hb;have HI:=Lib.hid hI;clear hb hI
  by_cases hlt:k<l.length
  ·obtain ⟨b1,o1,rfl,a0⟩:=ER (dV.below H1.out HB.out) hlt;have CI:=Lib.hid (Any.strconv_Itoa_small ua l[k] (HS.out _ (WA hlt)) wr)
   have hk1:(jU (l.take k)).length<=4 * k:=by
    have:=GY (l.take k) (fun n hn=>by have:=HS.out n (List.mem_of_mem_take hn);omega)
    have h2:(l.take k).length<=k:=List.length_take_le _ _;omega
   have hk2:=rb l[k] (by have:=HS.out _ (WA hlt);omega)
   have CW:=Lib.hid (BA w.heap.size w.heap.size (Lib.byteCells (jU (l.take k))) (⟨(Lib.decDigits l[k]).toArray⟩++⟨#[32]⟩) wr HI.out (by
    rw [Lib.byteCells_length]
    have:(⟨(Lib.decDigits l[k]).toArray⟩++⟨#[32]⟩:ByteArray).size=(Lib.decDigits l[k]).length+1:=by simp [ByteArray.size]
    omega) HB.out.size)
   go_wp2_with fail
   refine CI.out.mono ?_;rintro e w1 ⟨rfl,rfl⟩
   go_wp2_with fail
   refine CW.out.mono ?_;rintro e w2 ⟨rfl,hI2,hb2⟩
   go_wp2_with fail
   go_roundw
   case rel=>
    refine ⟨k+1,by omega,by go_num,HB.out.trans hb2, ?_⟩
    have e1:Lib.byteCells (jU (l.take (k+1)))=Lib.byteCells (jU (l.take k))++Lib.strCells (⟨(Lib.decDigits l[k]).toArray⟩++⟨#[32]⟩):=by
     rw [List.take_succ_eq_append_getElem hlt,Ei,Lib.byteCells_append,Lib.strCells_eq];simp
    rw [e1];exact hI2
   case measure=>simp [intOf];omega
  ·have hkl:k=l.length:=by omega
   subst hkl
   have hI3:Ov w.heap.size w.heap.size (Lib.byteCells (jU l)) wr:=by have:=HI.out;rwa [List.take_length] at this
   have CT:=Lib.hid (Any.Builder_String_any_k JP Mu w.heap.size w.heap.size (jU l) wr hI3 HB.out.size)
   go_wp2_with fail
   refine CT.out.mono ?_;rintro e w1 ⟨rfl,_,hb2,_⟩
   go_wp2_with fail
   go_ret
   exact ⟨rfl,HB.out.trans hb2⟩
theorem LG (l:List Nat) (hs: ∀n∈l,n<100) (hl:l.length<=1000000):ah Tryz.prog 118 [.aH 1 (aj l) l.length] (.v (.string (iZ l))):=
 .rV (by kernel_rfl) (by simp only [bp,AV.wf,bo,Bool.and_self]) (fun D nu w vargs hra=>by
  obtain ⟨x,rfl,hx⟩:=di hra
  exact Ki l hs hl x w (RA.Pl hx (fun x _ cs hc=>Ie (vs:=[.int .i64 (x:Nat)]) hc)))
theorem GU (n:Nat) (h:n<1000000):ah Tryz.prog 151 [.v (.int .i64 (n:Nat))] (.v (.string ⟨(Lib.decDigits n).toArray⟩)):=by
 refine ⟨⟨rfl,rfl⟩,by kernel_rfl,fun D nu w vargs hro hra=> ?_⟩;obtain ⟨x,rfl,hx⟩:=di hra;obtain rfl:=hx.b5;obtain ⟨⟨t,hb⟩,_⟩:=hro.gl 1 _ _ rfl
 have htab:Lib.TabIs Tryz.prog w "internal/strconv.uint64pow10" .u64 Lib.pow10Tab:=by
  have hg:Tryz.prog.globalNamed "internal/strconv.uint64pow10" = some 1:=by kernel_rfl
  simp only [Lib.TabIs,World.var?,hg,Option.bind_some,hb]
  rfl
 refine (Any.strconv_Itoa GS n (by omega) (by omega) w htab).mono ?_;rintro e w' ⟨rfl,k,os,rfl⟩
 have e1:Lib.itoa (n:Int)=Lib.decDigits n:=by rw [Lib.itoa,if_neg (by omega)];rfl
 rw [e1];have hbw:Below w.heap.size w (Go.Sort.grow (w.drewN k) os):=Go.Lib.below_grow _ w (Nat.le_refl _) k os;exact ⟨_,nu,[],_,rfl,aw hbw,hro.below hbw, .v _,rfl,rfl⟩
section
section
variable {D:Nat->Prop} {nu:Nat->Nat->Value} {o:List (Option aa)} {w:World} {P:Program}
theorem Hg (h:RO D nu o w) {id:Nat} {ob:aa} (ho:o[id]? = some (some ob)) (hv:ob.du=false) (hz:ob.z=0):RA D nu (o.set id none) w (.mp ob.rows) (nu id 0):=by
 rcases h.obj id ob ho with ⟨e1,_⟩|⟨g,cur,hb⟩|⟨g,es,cl,hm⟩
 ·rw [e1] at hv;cases hv
 ·have:=hb.z;omega
 ·rw [hm.p8]
  have hf:Fz D nu (o.set id none) w g:=by
   refine ⟨(Array.getElem?_eq_some_iff.1 hm.blk).1, ?_,hm.ko⟩;rintro ⟨id',ob',k1,k2⟩
   by_cases he:id=id'
   ·subst he;rw [Vq (U4.1 ho).1] at k1;cases k1
   ·rw [Vp he] at k1;exact h.sep id id' ob ob' g ho k1 he hm.bg k2
  refine .mp _ g es cl hf hm.blk hm.sz hm.row hm.born hm.iC (fun i j row c e k1 k2 k3=> ?_);have hl:=hm.row i row k1;have hj:=(U4.1 k2).1
  match j,hj,k2 with
  | 0,_,k2=>exact (hm.key i row c e k1 k2 k3).mono (cH id) (fun _ _ h=>h)
  | 1,_,k2=>exact (hm.val i row c e k1 k2 k3).mono (cH id) (fun _ _ h=>h)
  | j+2,hj,_=>omega
theorem sG {s:AS} (i id:Nat) {ob:aa} (hi:s.t[i]? = some (.vec id 0)) (ho:s.o[id]? = some (some ob)) (hv:ob.du=false) (hz:ob.z=0):w8 s (AS.mk (s.t.set i (.mp ob.rows)) (s.o.set id none) s.y):=by
 intro f D nu a w hs;have hm:=cH (nu:=nu) (o:=s.o) (w:=w) id;refine ⟨nu,hm,rfl,iN hs.ro id,⟨by simpa using hs.tm.len,fun j c x h1 h2=> ?_⟩,hs.iB⟩
 by_cases hij:i=j
 ·subst hij;rw [Vq (U4.1 hi).1] at h1;cases h1;have hr:=hs.tm.at' i _ x hi h2;cases hr;exact Hg hs.ro ho hv hz
 ·rw [Vp hij] at h1;exact (hs.tm.at' j c x h1 h2).mono hm (fun _ _ h=>h)
end
theorem Ld {s:bN} (ok:wZ s) (l:List Nat) (lab:ByteArray) (hl:l.length<=1000000):ah Tryz.prog 119 [.vp (gj s), .aH 1 (aj l) l.length, .v (.string lab)] (.aH 1 (aj (bK s l lab)) (bK s l lab).length):=by
 have h:=KC ok (kp l) lab (by rw [tX];exact hl);rw [tX, <- DV] at h;exact h
theorem GM (l:List Nat) (n:Nat) (hl:l.length<=1000000): ∃k:Int,(decide (0<=k)=l.contains n)∧ah Tryz.prog 155 [.aH 1 (aj l) l.length, .v (.int .i64 n)] (.v (.int .i64 k)):=by
 refine ⟨if l.contains n then (l.idxOf n:Int) else -1,by split<;>simp_all<;>omega, ?_⟩
 (refine ah.enter Tryz.func155 rfl (by kernel_rfl) (by kernel_rfl) rfl (by first|rfl|(simp only [go_sem,WT,Wg,Wn])) (by first|rfl|(simp only [go_sem,WT,Wg,Wn])) ?_;simp only [Tryz.ntmps155,Tryz.results155,U9,U3,Nat.reduceAdd,Nat.reduceSub,WW,WX,WY,WZ])
 repeat (first|(with_reducible first|refine ag.up ?_|refine fun (K:AK) hK=> ?_|(refine hK _ ?_;clear hK K))|simp only [go_sem]|with_reducible refine wA ?_|clear hK K)
 refine bD (ι:=Nat) 8 (fun i=>[(5, .undef),(8, .v (.int .i64 i))]) (fun i=>l.length - i) (fun i=>i<=l.length∧n∉l.take i) 0 ⟨Nat.zero_le _,by simp⟩ ?_ ?_
 ·(refine aq ?_ ?_ ?_<;>simp only [aD,WJ,WK,WW,WX,aW,aY,AV.v.injEq,Value.int.injEq,Value.bool.injEq,Value.string.injEq,AV.vec.injEq,AV.ptr.injEq,true_or,or_true,false_or,or_false,aa.mk.injEq,forall_eq_apply_imp_iff,forall_eq,forall_eq',go_sem])
  rfl
 rintro i ⟨hi,hn⟩ K hK
 repeat (first|(with_reducible first|refine ag.up ?_|refine fun (K:AK) hK=> ?_|(refine hK _ ?_;clear hK K))|simp only [go_sem]|with_reducible refine wA ?_|clear hK K)
 refine eJ.part (fun h=> ?_) (fun h=> ?_)
 ·have hlt:i<l.length:=by (try simp only [bne_iff_ne,ne_eq,bne_eq_false_iff_eq,beq_iff_eq,beq_eq_false_iff_ne,decide_eq_true_eq,decide_eq_false_iff_not,W5,W7,W8,W9] at h);omega
  have eW:=aB (k:=i) (by omega)
  have eG:(aj l).getD i []=[.v (.int .i64 (l[i]:Nat))]:=by rw [aj,getD_map _ l i [] hlt]
  repeat (first|(with_reducible first|refine ag.up ?_|refine fun (K:AK) hK=> ?_|(refine hK _ ?_;clear hK K))|simp only [go_sem,h,eG]|with_reducible refine wA ?_|clear hK K)
  refine eJ.part (fun h2=> ?_) (fun h2=> ?_)
  ·have hc:n=l[i]:=by (try simp only [bne_iff_ne,ne_eq,bne_eq_false_iff_eq,beq_iff_eq,beq_eq_false_iff_ne,decide_eq_true_eq,decide_eq_false_iff_not,W5,W7,W8,W9] at h2);omega
   have hm:l.contains n=true:=by rw [Xa,hc];exact List.getElem_mem hlt
   have hx:l.idxOf n=i:=by
    have h1:l.idxOf n<=i:=by
     exact rF l n i (by rw [hc];exact Vi hlt)
    rcases Nat.lt_or_ge (l.idxOf n) i with q|q
    ·exfalso
     have hq:l.idxOf n<l.length:=by omega
     refine hn (XU.2 ⟨l.idxOf n,by omega, ?_⟩);exact List.getElem_idxOf hq
    ·omega
   repeat (first|(with_reducible first|refine ag.up ?_|refine fun (K:AK) hK=> ?_|(refine hK _ ?_;clear hK K))|simp only [go_sem]|with_reducible refine wA ?_|clear hK K)
   rw [hm,if_pos rfl,hx]
  ·have hc:n≠l[i]:=by (try simp only [bne_iff_ne,ne_eq,bne_eq_false_iff_eq,beq_iff_eq,beq_eq_false_iff_ne,decide_eq_true_eq,decide_eq_false_iff_not,W5,W7,W8,W9] at h2);omega
   repeat (first|(with_reducible first|refine ag.up ?_|refine fun (K:AK) hK=> ?_|(refine hK _ ?_;clear hK K))|simp only [go_sem,eW]|with_reducible refine wA ?_|clear hK K)
   exact aJ.mk (i+1) ⟨by omega,by
    rw [Xe hlt,List.mem_append]
    rintro (e|e)
    ·exact hn e
    ·exact hc (by simpa using e)⟩ (by omega) (by (refine aq ?_ ?_ ?_<;>simp only [aD,WJ,WK,WW,WX,aW,aY,AV.v.injEq,Value.int.injEq,Value.bool.injEq,Value.string.injEq,AV.vec.injEq,AV.ptr.injEq,true_or,or_true,false_or,or_false,aa.mk.injEq,forall_eq_apply_imp_iff,forall_eq,forall_eq',go_sem]))
 ·have hm:l.contains n=false:=by
   have:i=l.length:=by (try simp only [bne_iff_ne,ne_eq,bne_eq_false_iff_eq,beq_iff_eq,beq_eq_false_iff_ne,decide_eq_true_eq,decide_eq_false_iff_not,W5,W7,W8,W9] at h);omega
   rw [this,List.take_length] at hn;rw [<-Bool.not_eq_true,Xa];exact hn
  repeat (first|(with_reducible first|refine ag.up ?_|refine fun (K:AK) hK=> ?_|(refine hK _ ?_;clear hK K))|simp only [go_sem]|with_reducible refine wA ?_|clear hK K)
  rw [hm,if_neg (by decide)]
theorem xC (l:List Nat) (n:Nat) (hl:l.length<=1000000):ah Tryz.prog 121 [.aH 1 (aj l) l.length, .v (.int .i64 n)] (.v (.bool (l.contains n))):=by
 obtain ⟨k,hk,C⟩:=GM l n hl
 (refine ah.enter Tryz.func121 rfl (by kernel_rfl) (by kernel_rfl) rfl (by first|rfl|(simp only [go_sem,WT,Wg,Wn])) (by first|rfl|(simp only [go_sem,WT,Wg,Wn])) ?_;simp only [Tryz.ntmps121,Tryz.results121,U9,U3,Nat.reduceAdd,Nat.reduceSub,WW,WX,WY,WZ])
 repeat (first|(with_reducible first|refine ag.up ?_|refine fun (K:AK) hK=> ?_|(refine hK _ ?_;clear hK K))|simp only [go_sem]|clear hK K)
 refine ab.one C ?_
 repeat (first|(with_reducible first|refine ag.up ?_|refine fun (K:AK) hK=> ?_|(refine hK _ ?_;clear hK K))|simp only [go_sem]|clear hK K)
 rw [<-hk]
def xW (p:Nat->Bool):List Nat->Nat->Int
 | [],_=> -1
 | x :: xs,i=>if p x then (i:Int) else xW p xs (i+1)
theorem xX (p:Nat->Bool): ∀(l:List Nat) (i:Nat),decide (0<=xW p l i)=l.any p
 | [],i=>rfl
 | x :: xs,i=>by
  rw [xW,List.any_cons]
  cases p x with
  | true=>simp
  | false=>simpa using xX p xs (i+1)
theorem vH {g:FuncId} (caps:List AV) (hw:bp 0 caps=true) (p:Nat->Bool) (l:List Nat) (hl:l.length<=1000000) (H: ∀x:Nat,ah Tryz.prog g (.v (.int .i64 x) :: caps) (.v (.bool (p x)))) :
  ah Tryz.prog 156 [.aH 1 (aj l) l.length, .fn g [] caps] (.v (.int .i64 (xW p l 0))):=by
 (refine ah.enter Tryz.func156 rfl (by kernel_rfl) (by kernel_rfl) rfl (by simp only [go_sem,bp,AV.wf,WT,Wg,Wn,hw]) (by simp only [go_sem,bp,AV.wf,dB,WT,Wg,Wn,hw]) ?_;simp only [Tryz.ntmps156,Tryz.results156,U9,U3,Nat.reduceAdd,Nat.reduceSub,WW,WX,WY,WZ])
 repeat (first|(with_reducible first|refine ag.up ?_|refine fun (K:AK) hK=> ?_|(refine hK _ ?_;clear hK K))|simp only [go_sem]|with_reducible refine wA ?_|clear hK K)
 refine bD (ι:=Nat) 8 (fun i=>[(5, .undef),(8, .v (.int .i64 i))]) (fun i=>l.length - i) (fun i=>i<=l.length∧xW p l 0=xW p (l.drop i) i) 0 ⟨Nat.zero_le _,rfl⟩ ?_ ?_
 ·(refine aq ?_ ?_ ?_<;>simp only [aD,WJ,WK,WW,WX,aW,aY,AV.v.injEq,Value.int.injEq,Value.bool.injEq,Value.string.injEq,AV.vec.injEq,AV.ptr.injEq,true_or,or_true,false_or,or_false,aa.mk.injEq,forall_eq_apply_imp_iff,forall_eq,forall_eq',go_sem])
  all_goals first|exact hw|rfl|exact ⟨hw,rfl⟩
 rintro i ⟨hi,hx⟩ K hK
 repeat (first|(with_reducible first|refine ag.up ?_|refine fun (K:AK) hK=> ?_|(refine hK _ ?_;clear hK K))|simp only [go_sem]|with_reducible refine wA ?_|clear hK K)
 refine eJ.part (fun h=> ?_) (fun h=> ?_)
 ·have hlt:i<l.length:=by (try simp only [decide_eq_true_eq,decide_eq_false_iff_not,W8] at h);omega
  have eW:=aB (k:=i) (by omega)
  have eG:(aj l).getD i []=[.v (.int .i64 (l[i]:Nat))]:=by rw [aj,getD_map _ l i [] hlt]
  have HX:=H l[i];rw [List.drop_eq_getElem_cons hlt,xW] at hx
  repeat (first|(with_reducible first|refine ag.up ?_|refine fun (K:AK) hK=> ?_|(refine hK _ ?_;clear hK K))|simp only [go_sem,eG]|with_reducible refine wA ?_|clear hK K)
  refine ab.one HX ?_
  rcases Xg (p l[i]) with hp|hp
  ·rw [hp,if_pos rfl] at hx
   repeat (first|(with_reducible first|refine ag.up ?_|refine fun (K:AK) hK=> ?_|(refine hK _ ?_;clear hK K))|simp only [go_sem,hp]|with_reducible refine wA ?_|clear hK K)
   rw [hx]
  ·rw [hp,if_neg (by decide)] at hx
   repeat (first|(with_reducible first|refine ag.up ?_|refine fun (K:AK) hK=> ?_|(refine hK _ ?_;clear hK K))|simp only [go_sem,hp,eW]|with_reducible refine wA ?_|clear hK K)
   refine aJ.mk (i+1) ⟨by omega,hx⟩ (by omega) ?_
   (refine aq ?_ ?_ ?_<;>simp only [aD,WJ,WK,WW,WX,aW,aY,AV.v.injEq,Value.int.injEq,Value.bool.injEq,Value.string.injEq,AV.vec.injEq,AV.ptr.injEq,true_or,or_true,false_or,or_false,aa.mk.injEq,forall_eq_apply_imp_iff,forall_eq,forall_eq',go_sem])
   all_goals first|exact hw|rfl
 ·have:i=l.length:=by (try simp only [decide_eq_true_eq,decide_eq_false_iff_not,W8] at h);omega
  rw [this,List.drop_length,xW] at hx
  repeat (first|(with_reducible first|refine ag.up ?_|refine fun (K:AK) hK=> ?_|(refine hK _ ?_;clear hK K))|simp only [go_sem]|with_reducible refine wA ?_|clear hK K)
  rw [hx]
theorem pZ {g:FuncId} (caps:List AV) (hw:bp 0 caps=true) (p:Nat->Bool) (l:List Nat) (hl:l.length<=1000000) (H: ∀x:Nat,ah Tryz.prog g (.v (.int .i64 x) :: caps) (.v (.bool (p x)))) :
  ah Tryz.prog 123 [.aH 1 (aj l) l.length, .fn g [] caps] (.v (.bool (l.any p))):=by
 have C:=vH caps hw p l hl H
 (refine ah.enter Tryz.func123 rfl (by kernel_rfl) (by kernel_rfl) rfl (by simp only [go_sem,bp,AV.wf,WT,Wg,Wn,hw]) (by simp only [go_sem,bp,AV.wf,dB,WT,Wg,Wn,hw]) ?_;simp only [Tryz.ntmps123,Tryz.results123,U9,U3,Nat.reduceAdd,Nat.reduceSub,WW,WX,WY,WZ])
 repeat (first|(with_reducible first|refine ag.up ?_|refine fun (K:AK) hK=> ?_|(refine hK _ ?_;clear hK K))|simp only [go_sem]|clear hK K)
 refine ab.one C ?_
 repeat (first|(with_reducible first|refine ag.up ?_|refine fun (K:AK) hK=> ?_|(refine hK _ ?_;clear hK K))|simp only [go_sem]|clear hK K)
 rw [xX]
theorem GP (last:List Nat) (n:Nat) (hl:last.length<=1000000):ah Tryz.prog 120 [.v (.int .i64 n), .vp [.aH 1 (aj last) last.length]] (.v (.bool (last.contains n))):=by
 have C:=xC last n hl
 (refine ah.enter Tryz.func120 rfl (by kernel_rfl) (by kernel_rfl) rfl (by first|rfl|(simp only [go_sem,WT,Wg,Wn])) (by first|rfl|(simp only [go_sem,WT,Wg,Wn])) ?_;simp only [Tryz.ntmps120,Tryz.results120,U9,U3,Nat.reduceAdd,Nat.reduceSub,WW,WX,WY,WZ])
 repeat (first|(with_reducible first|refine ag.up ?_|refine fun (K:AK) hK=> ?_|(refine hK _ ?_;clear hK K))|simp only [go_sem]|clear hK K)
 refine ab.one C ?_
 repeat (first|(with_reducible first|refine ag.up ?_|refine fun (K:AK) hK=> ?_|(refine hK _ ?_;clear hK K))|simp only [go_sem]|clear hK K)
def Fg (l:List ByteArray):List (List AV):=cz (l.zipIdx)
theorem Cf (l:List ByteArray):(Fg l).length=l.length:=by simp [Fg,cz]
theorem ym (l:List ByteArray) (s:ByteArray): ∀k,look (l.zipIdx k) s=(pos l s).map (fun i=>i+k):=by
 induction l with
 | nil=>intro k;simp [look,pos]
 | cons a l ih=>
  intro k;rw [List.zipIdx_cons]
  have:=ih (k+1)
  simp only [look,pos,List.find?_cons,List.findIdx?_cons] at this ⊢
  cases h:dD s a
  ·simp only [Bool.false_eq_true,if_false];rw [this,Option.map_map]
   congr 1;funext i;simp;omega
  ·simp
theorem FE (s:ByteArray) (l:List ByteArray):ky .string (.string s) (Fg l)=some ((pos l s).map (fun n=> .v (.int .i64 (n:Nat)))):=by
 rw [Fg,u7,ym,Option.map_map];rfl
theorem G2 (l:List ByteArray) (s:ByteArray):Fg (l++[s])=cz (l.zipIdx++[(s,l.length)]):=by rw [Fg,List.zipIdx_append];simp
theorem FG (s:ByteArray) (l:List ByteArray) (h:pos l s=none):jF .string (.string s) (.v (.int .i64 (l.length:Nat))) (Fg l)=some (Fg (l++[s])):=by
 rw [Fg,oH s l.length _ (by rw [ym,h];rfl),G2]
@[go_sem] theorem Tq (n:Nat) (l:List ByteArray):bZ n (Fg l)=true:=qz n _
section
variable {P:Program}
theorem Dy {n0:Nat} {c:Code} {s:AS} {Q:aR->AS->Prop} (s0:AS) (hok:bq c=true) (h:bS P n0 c s (fun e s'=>e = .normal∧Wk n0 s' s0)) (k:Q .normal s0):zw P n0 c s Q:=fun f m D nu a w hZr hn hm hs hmx R hO hR=>by
 refine fl hmx m hZr hn c hok s a w D nu f.Z _ R hO hm hs h ?_;rintro e D' Z' s' a' w' nu' h1 h2 ⟨rfl,hk⟩;refine hR .normal D' Z' s0 a' w' nu' ?_ (gW hk h2) k;rw [<-hk.y];exact m.step h1 h2.ro hk.rS (gW hk h2).ro (fun c v hr hc=>hk.ra hr hc) (fun _ h=> .inl h) (fun _ h=> .inl h) (fun b hb=>⟨((m.mV h1).1 b hb).1,((m.mV h1).1 b hb).2, .inl hb⟩) (Nat.le_trans hn hk.n)
theorem FY {n0 id:Nat} {s:AS} {ops:Array Oper} {d:Bool} {Q:aR->AS->Prop} (s0:AS) (hok:dy ops=true) (h:bS P n0 (.region id ops d) s (fun e s'=>e = .normal∧Wk n0 s' s0)) (k:Q .normal s0):bS P n0 (.region id ops d) s Q:=by
 have:=Dy (c:= .region id ops d) s0 hok h k
 cases d
 ·exact .inr this
 ·exact .inr this
theorem pE {n0:Nat} {x y:Code} {s:AS} {Q:aR->AS->Prop} (s0:AS) (hx:bq x=true) (hy:bq y=true) (h:bS P n0 x s (fun e s'=>e = .normal∧Wk n0 s' s0)) (k:bS P n0 y s0 Q):bS P n0 (.seq x y) s Q:= .inr (fun f m D nu a w hZr hn hm hs hmx R hO hR=>by
 refine wpIn_seq (fl hmx (f:=f) m hZr hn x hx s a w D nu f.Z _ _ (fun a w h=>hO a w h) hm hs h ?_);rintro e D' Z' s' a' w' nu' h1 h2 ⟨rfl,hk⟩;refine fl hmx (f:=f) m hZr hn y hy s0 a' w' D' nu' Z' Q R hO ?_ (gW hk h2) k hR;rw [<-hk.y]
 exact m.step h1 h2.ro hk.rS (gW hk h2).ro (fun c v hr hc=>hk.ra hr hc) (fun _ h=> .inl h) (fun _ h=> .inl h) (fun b hb=>⟨((m.mV h1).1 b hb).1,((m.mV h1).1 b hb).2, .inl hb⟩) (Nat.le_trans hn hk.n))
theorem LO {n0 i:Nat} {ops:Array Oper} {d:Bool} {a b:Code} {s:AS} {Q:aR->AS->Prop} (h:bS P n0 (.seq (.seq (.region i ops d) a) b) s Q):bS P n0 (.seq (.seq (.region i ops d) a) b) s Q:=h
end
theorem vS {l:List ByteArray} (hn:l.Nodup) {i:Nat} (h:i<l.length):l[i]∉l.take i:=fun q=>by
 obtain ⟨j,hj,e⟩:=XU.1 q;exact List.pairwise_iff_getElem.1 hn j i (by omega) h (by omega) e
theorem Hf:cz []=[]:=rfl
def Dn (a:List Nat):List AV:=[.aH 1 (aj a) a.length]
theorem wH (n:Nat) (a:List Nat):bp n (Dn a)=true:=by simp only [Dn,bp,AV.wf,bo,WT]
@[go_sem] theorem Qv (n:Nat) (l:List (List Nat)):bZ n (l.map Dn)=true:=aZ _ (wH n) _
def pT:Option mX->AV
 | some st=> .cy [.vp (gV st.rows st.ends), .v (.bool true)]
 | none=> .cy [.v (.pointer none), .v (.bool false)]
theorem IV (o:Option mX):(pT o).wf 0=true:=by
 cases o with
 | none=>rfl
 | some st=>simp only [pT,AV.wf,bp,gV,oh,oc,WT]
theorem mB (m:BitVec 32):(∀n∈ar m,n<100)∧(ar m).length<=1000:=by
 refine ⟨fun n hn=> ?_, ?_⟩
 ·rw [ar,List.mem_filter,List.mem_range] at hn;omega
 ·have:=List.length_filter_le m.getLsbD (List.range 32)
  rw [List.length_range] at this;rw [ar];omega
theorem AM {s:bN} {a:List Nat} (h:Made (bK s) a):(∀n∈a,n<100)∧a.length<=1000:=by
 rcases h.2 with rfl|⟨cur,l,rfl⟩
 ·simp
 ·exact mB _
def gp (s:bN) (st:mX):List (Option aa):=[some ⟨56,1,false,[[.aH 1 (aj (ar s.la)) (ar s.la).length]]⟩,some ⟨163,0,false,Fg (st.all.map iZ)⟩,none,none,some ⟨56,1,true,st.all.map Dn⟩,some ⟨123,2,false,[[.vec 6 st.rows.length, .vec 7 st.rows.length]]⟩,some ⟨164,1,true,st.rows.map (fun r=>[.mp (cz r)])⟩,some ⟨4,1,true,st.ends.map (fun b=>[.v (.bool b)])⟩]
theorem Nk {s:bN} (ok:wZ s) (af:List ByteArray) (hn:af.Nodup) (hl:af.length<=1000) (hb:(ar s.la).length<=1000):ah Tryz.prog 84 [.vp (gj s),cg af] (pT (sx (bK s) s.em (ar s.la) af)):=by
 have CL:=KB s ok.len;have CE:=Hi s ok.len;have CK0:=LG [0] (by simp) (by simp);have e0:aj [0]=[[.v (.int .i64 0)]]:=rfl;rw [e0] at CK0;simp only [U9,U3,Nat.reduceAdd] at CK0
 have hA:bp 0 [AV.vp (gj s),cg af]=true:=by simp only [cg,bp,AV.wf,wJ,dB,WT]
 have hF:=IV (sx (bK s) s.em (ar s.la) af);generalize hrv:pT (sx (bK s) s.em (ar s.la) af)=rv at hF ⊢
 (refine ah.oT Tryz.func84 rfl (by kernel_rfl) (by kernel_rfl) rfl hA hF ?_;simp only [Tryz.ntmps84,Tryz.results84,U9,U3,Nat.reduceAdd,Nat.reduceSub,WW,WX,WY,WZ])
 repeat (first|(with_reducible first|refine ag.up ?_|refine fun (K:AK) hK=> ?_|(refine hK _ ?_;clear hK K))|simp only [go_sem]|with_reducible refine wA ?_|clear hK K)
 refine ab.one CL ?_
 repeat (first|(with_reducible first|refine ag.up ?_|refine fun (K:AK) hK=> ?_|(refine hK _ ?_;clear hK K))|simp only [go_sem]|with_reducible refine wA ?_|clear hK K)
 refine ab.Ff CK0 8 rfl (by simp only [go_sem,Nat.reduceLT,Nat.reduceLeDiff,Nat.reduceEqDiff,XB,XE,and_self]) rfl ?_
 repeat ((fail_if_success (with_reducible refine bL (i:=5) ?_));first|(with_reducible first|refine ag.up ?_|refine fun (K:AK) hK=> ?_|(refine hK _ ?_;clear hK K))|simp only [go_sem]|with_reducible refine wA ?_|clear hK K)
 refine bU (lr (k:=4) (i:=0) (j:=0) (by decide) rfl (Nat.zero_lt_succ _) rfl rfl rfl rfl rfl) (by kernel_rfl) ?_;simp only [WO,WN,U9,U3,Nat.reduceAdd,WY,WZ];refine bU (fh (k:=5) (i:=0) (j:=0) 164 1 (by decide) rfl (by decide) rfl rfl) (by kernel_rfl) ?_;simp only [WO,WN,U9,U3,Nat.reduceAdd,WY,WZ];refine bU (fh (k:=5) (i:=0) (j:=1) 4 1 (by decide) rfl (by decide) rfl rfl) (by kernel_rfl) ?_;simp only [WO,WN,U9,U3,Nat.reduceAdd,WY,WZ]
 repeat (first|(with_reducible first|refine ag.up ?_|refine fun (K:AK) hK=> ?_|(refine hK _ ?_;clear hK K))|simp only [go_sem]|with_reducible refine wA ?_|clear hK K)
 refine bI (ι:=mX) 10 (fun st=>[(8, .vec 4 st.all.length),(10, .v (.int .i64 st.rows.length))]) (gp s) (fun st=>257 - st.rows.length) (fun st=>Dl af st∧(∀a∈st.all,Made (bK s) a)∧pT (nT (bK s) s.em (ar s.la) af (257 - st.rows.length) st)=rv) s0
  ⟨Ni af,fun a ha=>by simp only [s0,List.mem_singleton] at ha;subst ha;exact ⟨by simp, .inl rfl⟩,hrv⟩ ?_ ?_
 ·simp only [gp,s0]
  (refine aq ?_ ?_ ?_<;>simp only [aD,WJ,WK,WW,WX,aW,aY,AV.v.injEq,Value.int.injEq,Value.bool.injEq,Value.string.injEq,AV.vec.injEq,AV.ptr.injEq,true_or,or_true,false_or,or_false,aa.mk.injEq,forall_eq_apply_imp_iff,forall_eq,forall_eq',go_sem])
  ·rfl
  ·exact ⟨rfl,rfl,wH _ _⟩
 ·rintro st ⟨hok,hmade,hrun⟩ K hK;have h257:=hok.max;have hel:=hok.ends;simp only [gp]
  repeat (first|(with_reducible first|refine ag.up ?_|refine fun (K:AK) hK=> ?_|(refine hK _ ?_;clear hK K))|simp only [go_sem]|with_reducible refine wA ?_|clear hK K)
  refine eJ.part (fun h=> ?_) (fun h=> ?_)
  ·have hlt:st.rows.length<st.all.length:=by (try simp only [bne_iff_ne,ne_eq,bne_eq_false_iff_eq,beq_iff_eq,beq_eq_false_iff_ne,decide_eq_true_eq,decide_eq_false_iff_not,W5,W7,W8,W9] at h);omega
   rw [show 257 - st.rows.length=(256 - st.rows.length)+1 by have:=hok.le;omega,nT,if_pos hlt] at hrun
   repeat (first|(with_reducible first|refine ag.up ?_|refine fun (K:AK) hK=> ?_|(refine hK _ ?_;clear hK K))|simp only [go_sem,h]|with_reducible refine wA ?_|clear hK K)
   obtain ⟨hcm,hcl⟩:=AM (hmade _ (bQ (d:=[]) hlt));rw [<-eb] at hcm hcl
   refine bI (ι:=Nat) 38 (fun i=>[(8, .vec 4 (gE (bK s) (eb st) st.all (af.take i)).1.length),(13, .undef),(14, .undef),(15, .undef),(16, .undef),(37, .v (.int .i64 i))]) (fun i=>gp s { st with all:=(gE (bK s) (eb st) st.all (af.take i)).1 }++[some ⟨164,0,false,cz (gE (bK s) (eb st) st.all (af.take i)).2⟩]) (fun i=>af.length - i) (fun i=>i<=af.length) 0 (Nat.zero_le _) ?_ ?_
   ·simp only [gp,XV,gE,WK,Hf,WY,WZ]
    (refine aq ?_ ?_ ?_<;>simp only [aD,WJ,WK,WW,WX,aW,aY,AV.v.injEq,Value.int.injEq,Value.bool.injEq,Value.string.injEq,AV.vec.injEq,AV.ptr.injEq,true_or,or_true,false_or,or_false,aa.mk.injEq,forall_eq_apply_imp_iff,forall_eq,forall_eq',go_sem])
    all_goals rfl
   ·intro i hi K hK;obtain ⟨k1,k2,k3,k4,k5,t,k6⟩:=wj (bK s) (cur:=eb st) hok.nd (af.take i);have hmd:=uB (bK s) hmade (cur:=eb st) (af.take i);have hlk: ∀l,l∉af.take i->look (gE (bK s) (eb st) st.all (af.take i)).2 l=none:=fun l hl=>pe.2 fun q=>hl (k5.subset q)
    rcases hRi:gE (bK s) (eb st) st.all (af.take i) with ⟨al,ro⟩
    rw [hRi] at k1 k2 k3 k4 k5 k6 hmd hlk;simp only at k1 k2 k3 k4 k5 k6 hmd hlk
    have hal:al.length<=2000:=by rw [List.length_take] at k4;omega
    simp only [gp,WY,WZ]
    repeat (first|(with_reducible first|refine ag.up ?_|refine fun (K:AK) hK=> ?_|(refine hK _ ?_;clear hK K))|simp only [go_sem]|with_reducible refine wA ?_|clear hK K)
    refine eJ.part (fun h2=> ?_) (fun h2=> ?_)
    ·have hli:i<af.length:=by (try simp only [bne_iff_ne,ne_eq,bne_eq_false_iff_eq,beq_iff_eq,beq_eq_false_iff_ne,decide_eq_true_eq,decide_eq_false_iff_not,W5,W7,W8,W9] at h2);omega
     have eW:=aB (k:=i) (by omega);have eG:=getD_map encS af i [] hli
     have eC:(al.map Dn).getD st.rows.length []=[.aH 1 (aj (eb st)) (eb st).length]:=by
      have hx:al.getD st.rows.length []=eb st:=by rw [k6,cJ hlt];rfl
      rw [VX,List.getElem?_map,Vi (by omega)];rw [VX,Vi (by omega)] at hx;simp only [VB,Option.getD_some] at hx ⊢;rw [hx];rfl
     have hN:=lR (bK s) (eb st) st.all (af.take i) af[i];rw [<-Xe hli,hRi,Cx] at hN;have CS:=Ld ok (eb st) af[i] (by omega);obtain ⟨ts,tl⟩:=mB (iv s (gH s (kp (eb st))) af[i]);have CKy:=LG (bK s (eb st) af[i]) ts (by have:(bK s (eb st) af[i]).length<=1000:=tl;omega);have tl':(bK s (eb st) af[i]).length<=1000:=tl;generalize hto:bK s (eb st) af[i]=to at *;simp only [encS] at eG
     repeat (first|(with_reducible first|refine ag.up ?_|refine fun (K:AK) hK=> ?_|(refine hK _ ?_;clear hK K))|simp only [go_sem,eG,eC,h2]|with_reducible refine wA ?_|clear hK K)
     refine ab.one CS ?_
     repeat (first|(with_reducible first|refine ag.up ?_|refine fun (K:AK) hK=> ?_|(refine hK _ ?_;clear hK K))|simp only [go_sem]|with_reducible refine wA ?_|clear hK K)
     refine eJ.part (fun h3=> ?_) (fun h3=> ?_)
     ·have hz:to=[]:=List.eq_nil_of_length_eq_zero (by (try simp only [bne_iff_ne,ne_eq,bne_eq_false_iff_eq,beq_iff_eq,beq_eq_false_iff_ne,decide_eq_true_eq,decide_eq_false_iff_not,W5,W7,W8,W9] at h3);omega);rw [if_pos hz] at hN
      repeat (first|(with_reducible first|refine ag.up ?_|refine fun (K:AK) hK=> ?_|(refine hK _ ?_;clear hK K))|simp only [go_sem,eW]|with_reducible refine wA ?_|clear hK K)
      refine aJ.mk (i+1) (by omega) (by omega) ?_;rw [hN];simp only [gp,WY,WZ]
      (refine aq ?_ ?_ ?_<;>simp only [aD,WJ,WK,WW,WX,aW,aY,AV.v.injEq,Value.int.injEq,Value.bool.injEq,Value.string.injEq,AV.vec.injEq,AV.ptr.injEq,true_or,or_true,false_or,or_false,aa.mk.injEq,forall_eq_apply_imp_iff,forall_eq,forall_eq',go_sem])
     ·have hz: ¬to=[]:=fun e=>by subst e;simp at h3
      rw [if_neg hz] at hN;have eA:=FE (iZ to) (al.map iZ)
      repeat (first|(with_reducible first|refine ag.up ?_|refine fun (K:AK) hK=> ?_|(refine hK _ ?_;clear hK K))|simp only [go_sem]|with_reducible refine wA ?_|clear hK K)
      refine ab.one CKy ?_
      cases hp:pos (al.map iZ) (iZ to) with
      | some k=>
       rw [hp] at hN eA;simp only [VB] at eA hN;have eS:=oH af[i] k ro (hlk _ (vS hn hli))
       repeat (first|(with_reducible first|refine ag.up ?_|refine fun (K:AK) hK=> ?_|(refine hK _ ?_;clear hK K))|simp only [go_sem,eA,eS,eW]|with_reducible refine wA ?_|clear hK K)
       refine aJ.mk (i+1) (by omega) (by omega) ?_;rw [hN];simp only [gp,WY,WZ]
       (refine aq ?_ ?_ ?_<;>simp only [aD,WJ,WK,WW,WX,aW,aY,AV.v.injEq,Value.int.injEq,Value.bool.injEq,Value.string.injEq,AV.vec.injEq,AV.ptr.injEq,true_or,or_true,false_or,or_false,aa.mk.injEq,forall_eq_apply_imp_iff,forall_eq,forall_eq',go_sem])
      | none=>
       rw [hp] at hN eA;simp only [Option.map_none] at eA hN;have eS:=oH af[i] al.length ro (hlk _ (vS hn hli));have eK:=FG (iZ to) (al.map iZ) hp;rw [VW] at eK
       repeat (first|(with_reducible first|refine ag.up ?_|refine fun (K:AK) hK=> ?_|(refine hK _ ?_;clear hK K))|simp only [go_sem,eA,eS,eW]|with_reducible refine wA ?_|clear hK K)
       refine ab.one CKy ?_
       repeat (first|(with_reducible first|refine ag.up ?_|refine fun (K:AK) hK=> ?_|(refine hK _ ?_;clear hK K))|simp only [go_sem,eK,eS,eW]|with_reducible refine wA ?_|clear hK K)
       refine aJ.mk (i+1) (by omega) (by omega) ?_;rw [hN];simp only [gp,WY,WZ,XK,WR,Xb,U8,U9,U3]
       (refine aq ?_ ?_ ?_<;>simp only [aD,WJ,WK,WW,WX,aW,aY,AV.v.injEq,Value.int.injEq,Value.bool.injEq,Value.string.injEq,AV.vec.injEq,AV.ptr.injEq,true_or,or_true,false_or,or_false,aa.mk.injEq,forall_eq_apply_imp_iff,forall_eq,forall_eq',go_sem])
       all_goals exact ⟨rfl,wH _ _⟩
    ·have hil:i=af.length:=by (try simp only [bne_iff_ne,ne_eq,bne_eq_false_iff_eq,beq_iff_eq,beq_eq_false_iff_ne,decide_eq_true_eq,decide_eq_false_iff_not,W5,W7,W8,W9] at h2);omega
     rw [hil,List.take_length] at hRi
     have hall:(da (bK s) s.em (ar s.la) af st).all=al:=by rw [da,hRi]
     have hrow:(da (bK s) s.em (ar s.la) af st).rows=st.rows++[ro]:=by rw [da,hRi]
     rw [hall] at hrun
     repeat (first|(with_reducible first|refine ag.up ?_|refine fun (K:AK) hK=> ?_|(refine hK _ ?_;clear hK K))|simp only [go_sem]|with_reducible refine wA ?_|clear hK K)
     refine eJ.part (fun h3=> ?_) (fun h3=> ?_)
     ·rw [if_pos (by (try simp only [bne_iff_ne,ne_eq,bne_eq_false_iff_eq,beq_iff_eq,beq_eq_false_iff_ne,decide_eq_true_eq,decide_eq_false_iff_not,W5,W7,W8,W9] at h3);omega)] at hrun
      repeat (first|(with_reducible first|refine ag.up ?_|refine fun (K:AK) hK=> ?_|(refine hK _ ?_;clear hK K))|simp only [go_sem]|with_reducible refine wA ?_|clear hK K)
      rw [<-hrun];exact cB.cy ⟨cB.v _,cB.v _,trivial⟩
     ·have h256: ¬ 256<al.length:=by (try simp only [bne_iff_ne,ne_eq,bne_eq_false_iff_eq,beq_iff_eq,beq_eq_false_iff_ne,decide_eq_true_eq,decide_eq_false_iff_not,W5,W7,W8,W9] at h3);omega
      rw [if_neg h256] at hrun
      repeat ((fail_if_success (with_reducible refine bL (i:=24) ?_));first|(with_reducible first|refine ag.up ?_|refine fun (K:AK) hK=> ?_|(refine hK _ ?_;clear hK K))|simp only [go_sem]|with_reducible refine wA ?_|clear hK K)
      refine bU (sG 11 8 rfl rfl rfl rfl) (by kernel_rfl) ?_;simp only [WO,WN]
      repeat ((fail_if_success (with_reducible refine bL (i:=25) ?_));first|(with_reducible first|refine ag.up ?_|refine fun (K:AK) hK=> ?_|(refine hK _ ?_;clear hK K))|simp only [go_sem]|with_reducible refine wA ?_|clear hK K)
      have CF:=pZ (g:=120) [.vp [.aH 1 (aj (ar s.la)) (ar s.la).length]] (by simp only [bp,AV.wf,bo,WT]) (fun n=>(ar s.la).contains n) (eb st) (by omega) (fun n=>GP (ar s.la) n (by omega))
      have eC:(al.map Dn).getD st.rows.length []=[.aH 1 (aj (eb st)) (eb st).length]:=by
       have hx:al.getD st.rows.length []=eb st:=by rw [k6,cJ hlt];rfl
       rw [VX,List.getElem?_map,Vi (by omega)];rw [VX,Vi (by omega)] at hx;simp only [VB,Option.getD_some] at hx ⊢;rw [hx];rfl
      have hE:yL s.em (ar s.la) st=(((st.rows.length:Int)==0&&s.em)||(eb st).any (fun n=>(ar s.la).contains n)):=by
       rw [yL];congr 2;rw [Bool.eq_iff_iff,beq_iff_eq,beq_iff_eq];omega
      refine FY ⟨aD 112 [(0, .vp (gj s)),(1, .aH 1 (af.map encS) af.length),(4, .v (.pointer none)),(5, .v (.bool false)),(6, .ptr 0 0 1 0 0),(7, .vec 1 0),(8, .vec 4 al.length),(9, .ptr 5 0 2 0 0),(10, .v (.int .i64 st.rows.length))],gp s (da (bK s) s.em (ar s.la) af st), .no⟩ (by kernel_rfl) ?_ ?_
      ·have hO:gp s (da (bK s) s.em (ar s.la) af st)=gp s ⟨al,st.rows++[ro],st.ends++[yL s.em (ar s.la) st]⟩:=by rw [da,hRi]
       rw [hO]
       rcases (Xg ((st.rows.length:Int)==0)).symm with hZ|hZ
       ·have hE2:yL s.em (ar s.la) st=(eb st).any (fun n=>(ar s.la).contains n):=by rw [hE,hZ,Bool.false_and,Bool.false_or]
        simp only [gp,XK,WR,Xb,U8,U9,U3,hE2]
        (refine lC 20 88 9 (by kernel_rfl) (by decide+kernel) (by kernel_rfl) ?_;simp only [fP,WR,Xb,XW,WY,WZ,XX,XY,XZ,XV])
        repeat (first|(with_reducible first|refine ag.up ?_|refine fun (K:AK) hK=> ?_|(refine hK _ ?_;clear hK K))|simp only [go_sem,eC,hZ]|with_reducible refine wA ?_|clear hK K)
        refine bf.Ff CF 20 rfl (by simp only [go_sem,Nat.reduceLT,Nat.reduceLeDiff,Nat.reduceEqDiff,XB,XE,and_self]) rfl ?_
        repeat (first|(with_reducible first|refine ag.up ?_|refine fun (K:AK) hK=> ?_|(refine hK _ ?_;clear hK K))|simp only [go_sem,eC,hZ]|with_reducible refine wA ?_|clear hK K)
        (refine aq ?_ ?_ ?_<;>simp only [aD,WJ,WK,WW,WX,aW,aY,AV.v.injEq,Value.int.injEq,Value.bool.injEq,Value.string.injEq,AV.vec.injEq,AV.ptr.injEq,true_or,or_true,false_or,or_false,aa.mk.injEq,forall_eq_apply_imp_iff,forall_eq,forall_eq',go_sem])
       ·rcases (Xg s.em).symm with hem|hem
        ·have hE2:yL s.em (ar s.la) st=(eb st).any (fun n=>(ar s.la).contains n):=by rw [hE,hZ,hem];simp
         simp only [gp,XK,WR,Xb,U8,U9,U3,hE2]
         (refine lC 20 88 9 (by kernel_rfl) (by decide+kernel) (by kernel_rfl) ?_;simp only [fP,WR,Xb,XW,WY,WZ,XX,XY,XZ,XV])
         repeat (first|(with_reducible first|refine ag.up ?_|refine fun (K:AK) hK=> ?_|(refine hK _ ?_;clear hK K))|simp only [go_sem,eC,hZ]|with_reducible refine wA ?_|clear hK K)
         refine bf.one CE ?_
         repeat (first|(with_reducible first|refine ag.up ?_|refine fun (K:AK) hK=> ?_|(refine hK _ ?_;clear hK K))|simp only [go_sem,eC,hem]|with_reducible refine wA ?_|clear hK K)
         refine bf.Ff CF 20 rfl (by simp only [go_sem,Nat.reduceLT,Nat.reduceLeDiff,Nat.reduceEqDiff,XB,XE,and_self]) rfl ?_
         repeat (first|(with_reducible first|refine ag.up ?_|refine fun (K:AK) hK=> ?_|(refine hK _ ?_;clear hK K))|simp only [go_sem,eC,hem]|with_reducible refine wA ?_|clear hK K)
         (refine aq ?_ ?_ ?_<;>simp only [aD,WJ,WK,WW,WX,aW,aY,AV.v.injEq,Value.int.injEq,Value.bool.injEq,Value.string.injEq,AV.vec.injEq,AV.ptr.injEq,true_or,or_true,false_or,or_false,aa.mk.injEq,forall_eq_apply_imp_iff,forall_eq,forall_eq',go_sem])
        ·have hE2:yL s.em (ar s.la) st=true:=by rw [hE,hZ,hem];simp
         simp only [gp,XK,WR,Xb,U8,U9,U3,hE2]
         (refine lC 20 88 9 (by kernel_rfl) (by decide+kernel) (by kernel_rfl) ?_;simp only [fP,WR,Xb,XW,WY,WZ,XX,XY,XZ,XV])
         repeat (first|(with_reducible first|refine ag.up ?_|refine fun (K:AK) hK=> ?_|(refine hK _ ?_;clear hK K))|simp only [go_sem,eC,hZ]|with_reducible refine wA ?_|clear hK K)
         refine bf.one CE ?_
         repeat (first|(with_reducible first|refine ag.up ?_|refine fun (K:AK) hK=> ?_|(refine hK _ ?_;clear hK K))|simp only [go_sem,eC,hem]|with_reducible refine wA ?_|clear hK K)
         (refine aq ?_ ?_ ?_<;>simp only [aD,WJ,WK,WW,WX,aW,aY,AV.v.injEq,Value.int.injEq,Value.bool.injEq,Value.string.injEq,AV.vec.injEq,AV.ptr.injEq,true_or,or_true,false_or,or_false,aa.mk.injEq,forall_eq_apply_imp_iff,forall_eq,forall_eq',go_sem])
      ·have hlen:(da (bK s) s.em (ar s.la) af st).rows.length=st.rows.length+1:=by rw [hrow,U8,List.length_singleton]
       have eW:=aB (k:=st.rows.length) (by omega);obtain ⟨nx,hnx⟩: ∃nx,nx=da (bK s) s.em (ar s.la) af st:=⟨_,rfl⟩;have hnok:Dl af nx:=hnx ▸ su (bK s) s.em (ar s.la) hok hlt (by rw [hall];exact h256);rw [<-hnx] at hrun hlen hall ⊢;simp only [gp];simp only [aD,WJ,WK,WW,WX,go_sem]
       repeat (first|(with_reducible first|refine ag.up ?_|refine fun (K:AK) hK=> ?_|(refine hK _ ?_;clear hK K))|simp only [go_sem,eW]|with_reducible refine wA ?_|clear hK K)
       refine aJ.mk nx ⟨hnok,by rw [hall];exact hmd,by rw [hlen,show 257 - (st.rows.length+1)=256 - st.rows.length by omega];exact hrun⟩ (by rw [hlen];have:=hok.le;omega) ?_;simp only [gp,hall,hlen]
       (refine aq ?_ ?_ ?_<;>simp only [aD,WJ,WK,WW,WX,aW,aY,AV.v.injEq,Value.int.injEq,Value.bool.injEq,Value.string.injEq,AV.vec.injEq,AV.ptr.injEq,true_or,or_true,false_or,or_false,aa.mk.injEq,forall_eq_apply_imp_iff,forall_eq,forall_eq',go_sem])
  ·have hge:st.rows.length=st.all.length:=by have:=hok.le;(try simp only [bne_iff_ne,ne_eq,bne_eq_false_iff_eq,beq_iff_eq,beq_eq_false_iff_ne,decide_eq_true_eq,decide_eq_false_iff_not,W5,W7,W8,W9] at h);omega
   rw [show 257 - st.rows.length=(256 - st.rows.length)+1 by omega,nT,if_neg (by omega)] at hrun;have hel:=hok.ends
   repeat (first|(with_reducible first|refine ag.up ?_|refine fun (K:AK) hK=> ?_|(refine hK _ ?_;clear hK K))|simp only [go_sem]|with_reducible refine wA ?_|clear hK K)
   rw [<-hrun];simp only [pT,gV,hel];exact cB.cy ⟨cB.ptr (ob:=⟨123,2,false,[[.vec 6 st.rows.length, .vec 7 st.rows.length]]⟩) rfl rfl rfl (Nat.succ_ne_zero 1) ⟨cB.ND (ob:=⟨164,1,true,st.rows.map (fun r=>[.mp (cz r)])⟩) rfl rfl (VW _) (oh _ _),cB.ND (ob:=⟨4,1,true,st.ends.map (fun b=>[.v (.bool b)])⟩) rfl rfl ((VW _).trans hel) (oc _ _),trivial⟩,cB.v _,trivial⟩
end
structure RK (rows:List bn) (ends:List Bool):Prop where
 n:rows.length<=256
 e:ends.length=rows.length
 iC: ∀r∈rows,mZ (r.map Prod.fst)
 len: ∀r∈rows,r.length<=1000
 lab: ∀r∈rows, ∀p∈r,p.1.size<=1000∧p.2<rows.length
theorem nq (a b:ByteArray):(a++b).size=a.size+b.size:=ByteArray.size_append
theorem vu (u:Nat) (h:u<1000):(⟨(Lib.decDigits u).toArray⟩:ByteArray).size<=3:=by
 have:=rb u h
 simpa [ByteArray.size] using this
theorem uh (part:List Nat) (p:Nat):cM part p []=⟨(Lib.decDigits p).toArray⟩:=by simp [cM,vY]
theorem r7 (part:List Nat) (p:Nat) (r:bn) (e:ByteArray×Nat):cM part p (r++[e])=cM part p r++(((⟨#[32]⟩++e.1)++⟨#[32]⟩)++⟨(Lib.decDigits (part.getD e.2 0)).toArray⟩):=by
 apply ByteArray.ext
 rw [cM,EC];simp [cM,ByteArray.data_append]
theorem AW (part:List Nat) (p:Nat) (hp:p<1000) (hq: ∀s,part.getD s 0<1000): ∀r:bn,(∀e∈r,e.1.size<=1000)->(cM part p r).size<=3+1005 * r.length:=by
 refine kb ?_ ?_
 ·intro _;rw [uh];have:=vu p hp;simpa using this
 ·intro r e ih h;have h1:=ih fun x hx=>h x (List.mem_append_left _ hx);have h2:=h e (by simp);have h3:=vu _ (hq e.2);have h4:(⟨#[32]⟩:ByteArray).size=1:=rfl;rw [r7,nq,nq,nq,nq,h4,U8,List.length_singleton];omega
theorem qi {l:List Nat} {b:Nat} (hb:0<b) (h: ∀v∈l,v<b) (s:Nat):l.getD s 0<b:=by
 rw [VX]
 cases hs:l[s]? with
 | none=>simpa using hb
 | some v=>exact h v (List.mem_of_getElem? hs)
theorem Pf (ends:List Bool): ∀v∈p0 ends,v<1000:=fun v hv=>by
 rw [p0,List.mem_map] at hv;obtain ⟨b,_,rfl⟩:=hv
 split<;>omega
theorem KI (rows:List bn) (part:List Nat) (n:Nat) (v:Nat) (hv:v∈(dQ rows part n).2):v<(dQ rows part n).1.length:=by
 have ok:=fT rows part n;obtain ⟨s,hs,rfl⟩:=List.mem_iff_getElem.1 hv
 have:=(ok.at' s (by have:=ok.len;omega)).1
 rw [VX,Vi hs] at this;exact this
theorem MV {rows:List bn} (hn:rows.length<=256) (part:List Nat): ∀v∈dS rows part,v<1000:=fun v hv=>by
 have:=KI rows part rows.length v hv
 have:=(fT rows part rows.length).le
 omega
theorem CB (A:List Nat) (n i v:Nat) (hA:A.length=i) (h:i<n):(aj (A++List.replicate (n - i) 0)).set i [.v (.int .i64 (v:Nat))]=aj ((A++[v])++List.replicate (n - (i+1)) 0):=by
 rw [show n - i=(n - (i+1))+1 by omega,WW,aj,aj,XK,XK,XK,List.set_append,if_neg (by simp [hA])];simp [hA]
theorem OX (A:List Nat) (n i:Nat) (hA:A.length=i) (h:i<n):(aj (A++List.replicate (n - i) 0)).getD i []=[.v (.int .i64 0)]:=by
 rw [show n - i=(n - (i+1))+1 by omega,WW,aj,XK,VX,List.getElem?_append_right (by simp [hA])];simp [hA]
theorem Pp (A:List Nat) (n i:Nat) (h:i<n):A++List.replicate (n - i) 0=(A++[0])++List.replicate (n - (i+1)) 0:=by
 rw [show n - i=(n - (i+1))+1 by omega,WW];simp
def Hz (ends:List Bool) (i:Nat):List (Option aa):=[some ⟨3,1,true,aj (p0 (ends.take i)++List.replicate (ends.length - i) 0)⟩,some ⟨56,1,false,[[.vec 0 ends.length]]⟩]
def ph (n:Nat) (part:List Nat):List (Option aa):=[none,some ⟨56,1,false,[[.aH 1 (aj part) n]]⟩]
def th (rows:List bn) (part:List Nat) (s:Nat):List (Option aa):=ph rows.length part++[some ⟨163,0,false,Fg (dQ rows part s).1⟩,some ⟨3,1,true,aj ((dQ rows part s).2++List.replicate (rows.length - s) 0)⟩]
theorem KK {rows:List bn} {ends:List Bool} (ok:RK rows ends):ah Tryz.prog 124 [.vp (gV rows ends)] (.aH 1 (aj (cG rows ends)) rows.length):=by
 have hN:=ok.n;have hE:=ok.e
 have hA:bp 0 [AV.vp (gV rows ends)]=true:=by simp only [gV,bp,AV.wf,oh,oc,Bool.and_self]
 have hF:(AV.aH 1 (aj (cG rows ends)) rows.length).wf 0=true:=by simp only [AV.wf,bo]
 generalize hrv:AV.aH 1 (aj (cG rows ends)) rows.length=rv at hF ⊢
 (refine ah.oT Tryz.func124 rfl (by kernel_rfl) (by kernel_rfl) rfl hA hF ?_;simp only [Tryz.ntmps124,Tryz.results124,List.length_cons,List.length_nil,Nat.reduceAdd,Nat.reduceSub,WW,WX,WY,WZ])
 simp only [gV]
 repeat (first|(with_reducible first|refine ag.up ?_|refine fun (K:AK) hK=> ?_|refine wE ?_|refine wK ?_|refine wF ?_|(refine hK _ ?_;clear hK K))|simp only [go_sem]|with_reducible refine wA ?_|clear hK K)
 refine bI (ι:=Nat) 27 (fun i=>[(4, .undef),(5, .undef),(26, .v (.int .i64 i))]) (Hz ends) (fun i=>ends.length - i) (fun i=>i<=ends.length) 0 (Va _) ?_ ?_
 ·have e0:aj (p0 (ends.take 0)++List.replicate (ends.length - 0) 0)=List.replicate rows.length [AV.v (.int .i64 0)]:=by
   rw [hE];simp [p0,aj]
  simp only [Hz,e0,hE]
  (refine aq ?_ ?_ ?_<;>simp only [aD,WJ,WK,WW,WX,aW,aY,AV.v.injEq,Value.int.injEq,Value.bool.injEq,Value.string.injEq,AV.vec.injEq,AV.ptr.injEq,true_or,or_true,false_or,or_false,aa.mk.injEq,forall_eq_apply_imp_iff,forall_eq,forall_eq',go_sem])
  all_goals first|rfl|simp [p0,aj]
 ·intro i hi K hK;simp only [Hz]
  repeat (first|(with_reducible first|refine ag.up ?_|refine fun (K:AK) hK=> ?_|refine wE ?_|refine wK ?_|refine wF ?_|(refine hK _ ?_;clear hK K))|simp only [go_sem]|with_reducible refine wA ?_|clear hK K)
  refine eJ.part (fun h=> ?_) (fun h=> ?_)
  ·have hlt:i<ends.length:=by (try simp only [bne_iff_ne,ne_eq,bne_eq_false_iff_eq,beq_iff_eq,beq_eq_false_iff_ne,decide_eq_true_eq,decide_eq_false_iff_not,W5,W7,W8,W9] at h);omega
   have eW:=aB (k:=i) (by omega)
   have eG:(ends.map (fun b=>[AV.v (.bool b)])).getD i []=[.v (.bool ends[i])]:=by
    rw [VX,Vl,Vi hlt];rfl
   have hl0:(p0 (ends.take i)).length=i:=by rw [p0,VW,List.length_take];omega
   have eL:(aj (p0 (ends.take i)++List.replicate (ends.length - i) 0)).length=ends.length:=by rw [aj,VW,U8,hl0,X0];omega
   have eN:p0 (ends.take (i+1))=p0 (ends.take i)++[if ends[i] then 1 else 0]:=by rw [p0,p0,Xe hlt,XK];rfl
   rcases (Bool.eq_false_or_eq_true ends[i]).symm with hb|hb
   ·rw [hb] at eG eN;rw [if_neg (by decide)] at eN
    repeat (first|(with_reducible first|refine ag.up ?_|refine fun (K:AK) hK=> ?_|refine wE ?_|refine wK ?_|refine wF ?_|(refine hK _ ?_;clear hK K))|simp only [go_sem,eG,h]|with_reducible refine wA ?_|clear hK K)
    repeat (first|(with_reducible first|refine ag.up ?_|refine fun (K:AK) hK=> ?_|refine wE ?_|refine wK ?_|refine wF ?_|(refine hK _ ?_;clear hK K))|simp only [go_sem,eW]|with_reducible refine wA ?_|clear hK K)
    refine aJ.mk (i+1) (by omega) (by omega) ?_;simp only [Hz,eN, <- Pp _ _ _ hlt]
    (refine aq ?_ ?_ ?_<;>simp only [aD,WJ,WK,WW,WX,aW,aY,AV.v.injEq,Value.int.injEq,Value.bool.injEq,Value.string.injEq,AV.vec.injEq,AV.ptr.injEq,true_or,or_true,false_or,or_false,aa.mk.injEq,forall_eq_apply_imp_iff,forall_eq,forall_eq',go_sem])
   ·rw [hb] at eG eN;rw [if_pos rfl] at eN;have eS:=CB (p0 (ends.take i)) ends.length i 1 hl0 hlt;have eS:=CB (p0 (ends.take i)) ends.length i 1 hl0 hlt;have eQ:=OX (p0 (ends.take i)) ends.length i hl0 hlt;have c1:((1:Nat):Int)=1:=rfl;rw [c1] at eS
    repeat (first|(with_reducible first|refine ag.up ?_|refine fun (K:AK) hK=> ?_|refine wE ?_|refine wK ?_|refine wF ?_|(refine hK _ ?_;clear hK K))|simp only [go_sem,eG,h,eL,eQ,XX,XY,eS]|with_reducible refine wA ?_|clear hK K)
    repeat (first|(with_reducible first|refine ag.up ?_|refine fun (K:AK) hK=> ?_|refine wE ?_|refine wK ?_|refine wF ?_|(refine hK _ ?_;clear hK K))|simp only [go_sem,eW]|with_reducible refine wA ?_|clear hK K)
    refine aJ.mk (i+1) (by omega) (by omega) ?_;simp only [Hz,eN]
    (refine aq ?_ ?_ ?_<;>simp only [aD,WJ,WK,WW,WX,aW,aY,AV.v.injEq,Value.int.injEq,Value.bool.injEq,Value.string.injEq,AV.vec.injEq,AV.ptr.injEq,true_or,or_true,false_or,or_false,aa.mk.injEq,forall_eq_apply_imp_iff,forall_eq,forall_eq',go_sem])
    all_goals trace_state
  ·have h16:i=ends.length:=by (try simp only [bne_iff_ne,ne_eq,bne_eq_false_iff_eq,beq_iff_eq,beq_eq_false_iff_ne,decide_eq_true_eq,decide_eq_false_iff_not,W5,W7,W8,W9] at h);omega
   have e1:aj (p0 (ends.take i)++List.replicate (ends.length - i) 0)=aj (p0 ends):=by rw [h16,List.take_length,Nat.sub_self];simp
   have l0:(aj (p0 ends)).length=ends.length:=by simp [aj,p0]
   have l1:(p0 ends).length=rows.length:=by simp [p0,hE]
   simp only [e1]
   repeat ((fail_if_success (with_reducible refine bL (i:=8) ?_));first|(with_reducible first|refine ag.up ?_|refine fun (K:AK) hK=> ?_|refine wK ?_|refine wF ?_|(refine hK _ ?_;clear hK K))|simp only [go_sem]|with_reducible refine wA ?_|clear hK K)
   refine bU (lr (k:=1) (i:=0) (j:=0) (by decide) rfl (Nat.zero_lt_succ _) rfl rfl rfl rfl l0) (by kernel_rfl) ?_;simp only [List.set_cons_zero,List.set_cons_succ,hE];clear hi h h16 e1 l0;have hs0: ∃f,rows.length+2<=f+0∧AV.aH 1 (aj (vZ rows f (p0 ends) 0)) rows.length=rv:=⟨rows.length+2,Nat.le_refl _,hrv⟩;clear hrv
   repeat (first|(with_reducible first|refine ag.up ?_|refine fun (K:AK) hK=> ?_|refine wE ?_|refine wK ?_|refine wF ?_|(refine hK _ ?_;clear hK K))|simp only [go_sem]|with_reducible refine wA ?_|clear hK K)
   refine bI (ι:=List Nat×Nat) 7 (fun x=>[(4, .undef),(5, .undef),(6, .v (.int .i64 x.2))]) (fun x=>ph rows.length x.1) (fun x=>rows.length+1 - x.2) (fun x=>(∀v∈x.1,v<1000)∧x.2<=rows.length∧Oz rows x.1 x.2∧ ∃f,rows.length+2<=f+x.2∧AV.aH 1 (aj (vZ rows f x.1 x.2)) rows.length=rv) (p0 ends,0) ⟨Pf ends,Va _,⟨l1,fun k hk=>absurd hk (Nat.not_lt_zero k)⟩,hs0⟩ ?_ ?_
   ·simp only [ph]
    (refine aq ?_ ?_ ?_<;>simp only [aD,WJ,WK,WW,WX,aW,aY,AV.v.injEq,Value.int.injEq,Value.bool.injEq,Value.string.injEq,AV.vec.injEq,AV.ptr.injEq,true_or,or_true,false_or,or_false,aa.mk.injEq,forall_eq_apply_imp_iff,forall_eq,forall_eq',go_sem])
    all_goals rfl
   ·rintro ⟨part,many⟩ ⟨hpl,hml,hpo,f,hf,hfr⟩ K hK;simp only at hpl hml hpo hf hfr;have hpn:=hpo.1;simp only [ph]
    repeat (first|(with_reducible first|refine ag.up ?_|refine fun (K:AK) hK=> ?_|refine wE ?_|refine wK ?_|refine wF ?_|(refine hK _ ?_;clear hK K))|simp only [go_sem]|with_reducible refine wA ?_|clear hK K)
    have z0:List.replicate rows.length [AV.v (.int .i64 0)]=aj (List.replicate rows.length 0):=by simp [aj]
    refine bI (ι:=Nat) 46 (fun s=>[(9, .undef),(10, .undef),(11, .undef),(12, .undef),(13, .undef),(14, .undef),(45, .v (.int .i64 s))]) (th rows part) (fun s=>rows.length - s) (fun s=>s<=rows.length) 0 (Va _) ?_ ?_
    ·simp only [th,ph,WY,WZ]
     (refine aq ?_ ?_ ?_<;>simp only [aD,WJ,WK,WW,WX,aW,aY,AV.v.injEq,Value.int.injEq,Value.bool.injEq,Value.string.injEq,AV.vec.injEq,AV.ptr.injEq,true_or,or_true,false_or,or_false,aa.mk.injEq,forall_eq_apply_imp_iff,forall_eq,forall_eq',go_sem])
     all_goals first|rfl|exact ⟨rfl,z0⟩|trace_state
    ·intro s hs K hK;have pok:=fT rows part s;simp only [th,ph,WY,WZ]
     repeat (first|(with_reducible first|refine ag.up ?_|refine fun (K:AK) hK=> ?_|refine wE ?_|refine wK ?_|refine wF ?_|(refine hK _ ?_;clear hK K))|simp only [go_sem]|with_reducible refine wA ?_|clear hK K)
     refine eJ.part (fun h=> ?_) (fun h=> ?_)
     ·have hlt:s<rows.length:=by (try simp only [bne_iff_ne,ne_eq,bne_eq_false_iff_eq,beq_iff_eq,beq_eq_false_iff_ne,decide_eq_true_eq,decide_eq_false_iff_not,W5,W7,W8,W9] at h);omega
      have eW:=aB (k:=s) (by omega)
      have eG:(aj part).getD s []=[.v (.int .i64 ((part.getD s 0:Nat):Int))]:=by
       rw [aj,VX,Vl,Vi (by omega),VX,Vi (by omega)];rfl
      have CI:=GU (part.getD s 0) (by have:=qi (by omega) hpl s;omega);have CS:=CM rows ends s;have hlr:=ok.lab _ (WA hlt);have hln:=ok.len _ (WA hlt);have hseq:=uK rows ends s hlt (by omega) (fun p hp=>Nat.le_trans (hlr p hp).1 (by decide)) (ok.iC _ (WA hlt)) (by omega);simp only [gV,hE] at CS hseq;obtain ⟨row,hrow⟩: ∃row,row=rows[s]:=⟨_,rfl⟩;rw [<-hrow] at hlr hln hseq;have hq1:part.getD s 0<1000:=qi (by omega) hpl s
      repeat (first|(with_reducible first|refine ag.up ?_|refine fun (K:AK) hK=> ?_|refine wE ?_|refine wK ?_|refine wF ?_|(refine hK _ ?_;clear hK K))|simp only [go_sem,eG,h]|with_reducible refine wA ?_|clear hK K)
      refine ab.one CI ?_
      repeat (first|(with_reducible first|refine ag.up ?_|refine fun (K:AK) hK=> ?_|refine wE ?_|refine wK ?_|refine wF ?_|(refine hK _ ?_;clear hK K))|simp only [go_sem]|with_reducible refine wA ?_|clear hK K)
      refine ab.one CS ?_
      repeat (first|(with_reducible first|refine ag.up ?_|refine fun (K:AK) hK=> ?_|refine wE ?_|refine wK ?_|refine wF ?_|(refine hK _ ?_;clear hK K))|simp only [go_sem]|with_reducible refine wA ?_|clear hK K)
      refine mz hseq 58 (fun k=>th rows part s++[some ⟨9,1,false,[[.v (.string (cM part (part.getD s 0) (row.take k)))]]⟩]) (fun k=>k<=row.length) (Va _) ?_ ?_ ?_ (by kernel_rfl) (by kernel_rfl) ?_ ?_ ?_
      ·repeat (first|(with_reducible first|refine ag.up ?_|refine fun (K:AK) hK=> ?_|refine wE ?_|refine wK ?_|refine wF ?_|(refine hK _ ?_;clear hK K))|simp only [go_sem]|with_reducible refine wA ?_|clear hK K)
      ·simp only [bp,AV.wf,oh,oc,Bool.and_self]
      ·simp only [th,ph,WY,WZ,List.take_zero,uh]
       (refine aq ?_ ?_ ?_<;>simp only [aD,WJ,WK,WW,WX,aW,aY,AV.v.injEq,Value.int.injEq,Value.bool.injEq,Value.string.injEq,AV.vec.injEq,AV.ptr.injEq,true_or,or_true,false_or,or_false,aa.mk.injEq,forall_eq_apply_imp_iff,forall_eq,forall_eq',go_sem])
       all_goals trace_state
      ·intro x hx;obtain ⟨o,_,rfl⟩:=List.mem_map.1 hx
       rfl
      ·intro k x hk hx
       obtain ⟨hkl,hx⟩: ∃h:k<row.length,x=[.v (.string row[k].1), .v (.int .i64 (row[k].2:Nat))]:=by
        obtain ⟨h1,h2⟩:=List.getElem?_eq_some_iff.1 hx;simp only [cz,VW] at h1;exact ⟨h1,by rw [<-h2];simp [cz]⟩
       subst hx;obtain ⟨hz1,hz2⟩:=hlr _ (WA hkl)
       have eT:(aj part).getD row[k].2 []=[.v (.int .i64 ((part.getD row[k].2 0:Nat):Int))]:=by
        rw [aj,VX,Vl,Vi (by omega),VX,Vi (by omega)];rfl
       have hq2:part.getD row[k].2 0<1000:=qi (by omega) hpl _;have CJ:=GU (part.getD row[k].2 0) (by omega);have hS:=r7 part (part.getD s 0) (row.take k) row[k];rw [<-Xe hkl] at hS;simp only [th,ph,WY,WZ];have h32:(⟨#[32]⟩:ByteArray).size=1:=rfl;have hd1:=vu _ hq2;have hd2:=AW part (part.getD s 0) hq1 (qi (by omega) hpl) (row.take k) (fun e he=>(hlr _ (List.mem_of_mem_take he)).1);rw [List.length_take] at hd2;have b1:(#[32]:Array UInt8).size=1:=rfl;have b2:(Lib.decDigits (part.getD row[k].2 0)).toArray.size<=3:=hd1
       repeat (first|(with_reducible first|refine ag.up ?_|refine fun (K:AK) hK=> ?_|refine wE ?_|refine wK ?_|refine wF ?_|(refine hK _ ?_;clear hK K))|simp only [go_sem,eT]|with_reducible refine wA ?_|clear hK K)
       refine bf.one CJ ?_
       repeat (first|(with_reducible first|refine ag.up ?_|refine fun (K:AK) hK=> ?_|refine wE ?_|refine wK ?_|refine wF ?_|(refine hK _ ?_;clear hK K))|simp only [go_sem,eT]|with_reducible refine wA ?_|clear hK K)
       simp only [th,ph,WY,WZ,hS]
       (refine aq ?_ ?_ ?_<;>simp only [aD,WJ,WK,WW,WX,aW,aY,AV.v.injEq,Value.int.injEq,Value.bool.injEq,Value.string.injEq,AV.vec.injEq,AV.ptr.injEq,true_or,or_true,false_or,or_false,aa.mk.injEq,forall_eq_apply_imp_iff,forall_eq,forall_eq',go_sem])
      ·intro _
       have hmr:(cz row).length=row.length:=by simp [cz]
       simp only [hmr,List.take_length,th,ph,WY,WZ];have eA:=FE (cM part (part.getD s 0) row) (dQ rows part s).1;have hI:=ug rows part s
       have hg:rows.getD s []=row:=by rw [hrow,VX,Vi hlt];rfl
       rw [QK,hg] at hI;have l2:=pok.len;have l3:=pok.le
       rcases hps:dQ rows part s with ⟨ks,ns⟩
       rw [hps] at hI eA l2 l3;simp only at hI eA l2 l3
       have eL:(aj (ns++List.replicate (rows.length - s) 0)).length=rows.length:=by rw [aj,VW,U8,l2,X0];omega
       have eQ:=OX ns rows.length s l2 hlt
       cases hp:pos ks (cM part (part.getD s 0) row) with
       | some k=>
        rw [hp] at hI eA;simp only [Option.map_some] at eA hI;have eS:=CB ns rows.length s k l2 hlt
        repeat (first|(with_reducible first|refine ag.up ?_|refine fun (K:AK) hK=> ?_|refine wE ?_|refine wK ?_|refine wF ?_|(refine hK _ ?_;clear hK K))|simp only [go_sem,eA,eL,eQ,XX,XY,eS]|with_reducible refine wA ?_|clear hK K)
        repeat (first|(with_reducible first|refine ag.up ?_|refine fun (K:AK) hK=> ?_|refine wE ?_|refine wK ?_|refine wF ?_|(refine hK _ ?_;clear hK K))|simp only [go_sem,eW]|with_reducible refine wA ?_|clear hK K)
        refine aJ.mk (s+1) (by omega) (by omega) ?_;simp only [th,ph,WY,WZ,hI]
        (refine aq ?_ ?_ ?_<;>simp only [aD,WJ,WK,WW,WX,aW,aY,AV.v.injEq,Value.int.injEq,Value.bool.injEq,Value.string.injEq,AV.vec.injEq,AV.ptr.injEq,true_or,or_true,false_or,or_false,aa.mk.injEq,forall_eq_apply_imp_iff,forall_eq,forall_eq',go_sem])
       | none=>
        rw [hp] at hI eA;simp only [Option.map_none] at eA hI;have eS:=CB ns rows.length s ks.length l2 hlt;have eK:=FG (cM part (part.getD s 0) row) ks hp;have eM:=Cf ks
        repeat (first|(with_reducible first|refine ag.up ?_|refine fun (K:AK) hK=> ?_|refine wE ?_|refine wK ?_|refine wF ?_|(refine hK _ ?_;clear hK K))|simp only [go_sem,eA,eL,eQ,XX,XY,eS,eK,eM]|with_reducible refine wA ?_|clear hK K)
        repeat (first|(with_reducible first|refine ag.up ?_|refine fun (K:AK) hK=> ?_|refine wE ?_|refine wK ?_|refine wF ?_|(refine hK _ ?_;clear hK K))|simp only [go_sem,eW]|with_reducible refine wA ?_|clear hK K)
        refine aJ.mk (s+1) (by omega) (by omega) ?_;simp only [th,ph,WY,WZ,hI]
        (refine aq ?_ ?_ ?_<;>simp only [aD,WJ,WK,WW,WX,aW,aY,AV.v.injEq,Value.int.injEq,Value.bool.injEq,Value.string.injEq,AV.vec.injEq,AV.ptr.injEq,true_or,or_true,false_or,or_false,aa.mk.injEq,forall_eq_apply_imp_iff,forall_eq,forall_eq',go_sem])
     ·have hss:s=rows.length:=by (try simp only [bne_iff_ne,ne_eq,bne_eq_false_iff_eq,beq_iff_eq,beq_eq_false_iff_ne,decide_eq_true_eq,decide_eq_false_iff_not,W5,W7,W8,W9] at h);omega
      subst hss;have l2:=pok.len
      have e1:(dQ rows part rows.length).2++List.replicate (rows.length - rows.length) 0=dS rows part:=by rw [Nat.sub_self];simp [dS]
      have e2:=Cf (dQ rows part rows.length).1;have e3:(dQ rows part rows.length).1.length=gm rows part:=rfl;rw [e3] at e2
      have eL:(aj (dS rows part)).length=rows.length:=by rw [aj,VW];exact l2
      simp only [e1];have hme:=yv rows part;have hmo:=r8 rows hpo
      repeat ((fail_if_success (with_reducible refine bL (i:=26) ?_));first|(with_reducible first|refine ag.up ?_|refine fun (K:AK) hK=> ?_|refine wK ?_|refine wF ?_|(refine hK _ ?_;clear hK K))|simp only [go_sem]|with_reducible refine wA ?_|clear hK K)
      clear hK;clear hK;clear K;clear K
      repeat ((fail_if_success (with_reducible refine bL (i:=26) ?_));first|(with_reducible first|refine ag.up ?_|refine fun (K:AK) hK=> ?_|refine wK ?_|refine wF ?_|(refine hK _ ?_;clear hK K))|simp only [go_sem]|with_reducible refine wA ?_|clear hK K)
      refine bU (lr (k:=1) (i:=0) (j:=0) (by decide) rfl (Nat.zero_lt_succ _) rfl rfl rfl rfl eL) (by kernel_rfl) ?_;simp only [List.set_cons_zero,List.set_cons_succ]
      repeat (first|(with_reducible first|refine ag.up ?_|refine fun (K:AK) hK=> ?_|refine wE ?_|refine wK ?_|refine wF ?_|(refine hK _ ?_;clear hK K))|simp only [go_sem,e2]|with_reducible refine wA ?_|clear hK K)
      refine eJ.part (fun h2=> ?_) (fun h2=> ?_)
      ·have hm:gm rows part=many:=by (try simp only [bne_iff_ne,ne_eq,bne_eq_false_iff_eq,beq_iff_eq,beq_eq_false_iff_ne,decide_eq_true_eq,decide_eq_false_iff_not,W5,W7,W8,W9] at h2);omega
       obtain ⟨f',rfl⟩: ∃f',f=f'+1:=⟨f - 1,by omega⟩;rw [vZ,if_pos hm] at hfr
       repeat (first|(with_reducible first|refine ag.up ?_|refine fun (K:AK) hK=> ?_|refine wE ?_|refine wK ?_|refine wF ?_|(refine hK _ ?_;clear hK K))|simp only [go_sem]|with_reducible refine wA ?_|clear hK K)
       rw [<-hfr];exact cB.Sg (bo _ _)
      ·have hm:gm rows part≠many:=by (try simp only [bne_iff_ne,ne_eq,bne_eq_false_iff_eq,beq_iff_eq,beq_eq_false_iff_ne,decide_eq_true_eq,decide_eq_false_iff_not,W5,W7,W8,W9] at h2);omega
       obtain ⟨f',rfl⟩: ∃f',f=f'+1:=⟨f - 1,by omega⟩;rw [vZ,if_neg hm] at hfr
       repeat (first|(with_reducible first|refine ag.up ?_|refine fun (K:AK) hK=> ?_|refine wE ?_|refine wK ?_|refine wF ?_|(refine hK _ ?_;clear hK K))|simp only [go_sem,e2]|with_reducible refine wA ?_|clear hK K)
       refine aJ.mk (dS rows part,gm rows part) ⟨MV hN part,hme,r9 rows part,f', ?_,hfr⟩ ?_ ?_
       ·show rows.length+2<=f'+gm rows part;omega
       ·show rows.length+1 - gm rows part<rows.length+1 - many;omega
       ·simp only [ph]
        (refine aq ?_ ?_ ?_<;>simp only [aD,WJ,WK,WW,WX,aW,aY,AV.v.injEq,Value.int.injEq,Value.bool.injEq,Value.string.injEq,AV.vec.injEq,AV.ptr.injEq,true_or,or_true,false_or,or_false,aa.mk.injEq,forall_eq_apply_imp_iff,forall_eq,forall_eq',go_sem])
section
section
variable {D:Nat->Prop} {nu:Nat->Nat->Value} {o:List (Option aa)} {w:World} {P:Program}
theorem Lk {s:AS} {k i j id len:Nat} {ob:aa} {row:List AV} (x':AV) (hto: ∀(D:Nat->Prop) (nu:Nat->Nat->Value) (w:World),RO D nu s.o w->RA D nu (s.o.set id none) w x' (nu id len)) (hne:id≠k) (hk:s.o[k]? = some (some ob)) (hz:0<ob.z) (hr:ob.rows[i]? = some row) (hj:row[j]? = some (.vec id len)) :
  w8 s (AS.mk s.t ((s.o.set id none).set k (some { ob with rows:=ob.rows.set i (row.set j x') })) s.y):=by
 intro f D nu a w hs;have hp:=cH (nu:=nu) (o:=s.o) (w:=w) id;have hro:=iN hs.ro id
 have hk':(s.o.set id none)[k]? = some (some ob):=by rw [Vp hne];exact hk
 have hh:ob.hl=({ ob with rows:=ob.rows.set i (row.set j x') }:aa).hl:=by simp [aa.hl]
 obtain ⟨g,cur,hb⟩: ∃g cur,sO D nu (s.o.set id none) w k ob g cur:=by
  rcases hro.obj k ob hk' with ⟨_,e,_⟩|h|⟨g,es,cl,hm⟩
  ·rw [e] at hr;simp at hr
  ·exact h
  ·have:=hm.z;omega
 have hm:=gn (nu:=nu) (o:=s.o.set id none) (w:=w) (w':=w) (ob':={ ob with rows:=ob.rows.set i (row.set j x') }) hk' hh.symm hb.bg rfl rfl rfl rfl (fun _ _=>rfl);refine ⟨nu,hp.trans hm,rfl, ?_,(hs.tm.mono hp (fun _ _ h=>h)).mono hm (fun _ _ h=>h),hs.iB⟩;have hil:=(U4.1 hr).1;have hjl:=(U4.1 hj).1;have hsl:=hto D nu w hs.ro
 have key: ∀(i' j':Nat) r c,(ob.rows.set i (row.set j x'))[i']? = some r->r[j']? = some c-> ∃r0 c0,ob.rows[i']? = some r0∧r0[j']? = some c0∧(c=c0∨(c=x'∧c0 = .vec id len)):=by
  intro i' j' r c h1 h2
  by_cases hi:i=i'
  ·subst hi;rw [Vq hil] at h1;cases h1
   by_cases hj':j=j'
   ·subst hj';rw [Vq hjl] at h2;cases h2;exact ⟨row,_,hr,hj, .inr ⟨rfl,rfl⟩⟩
   ·rw [Vp hj'] at h2;exact ⟨row,c,hr,h2, .inl rfl⟩
  ·rw [Vp hi] at h1;exact ⟨r,c,h1,h2, .inl rfl⟩
 refine mR hro hk' hh.symm hb.bg hm (fun _ _=>rfl) (cur:=cur) ⟨hb.blk,hb.ko,fun hv'=> ?_,fun hv'=> ?_,hb.z,fun i' r hi'=> ?_,fun i' j' r c x h1 h2 h3=> ?_,fun i' j' r c x h1 h2 h3=> ?_⟩
 ·obtain ⟨q1,q2,q3⟩:=hb.box hv';exact ⟨q1,by simpa using q2,q3⟩
 ·obtain ⟨cap,q1,q2,q3,q4⟩:=hb.vec hv';exact ⟨cap,by simpa using q1,by simpa using q2,q3,q4⟩
 ·by_cases hi:i=i'
  ·subst hi;rw [Vq hil] at hi';cases hi';rw [List.length_set];exact hb.row i row hr
  ·rw [Vp hi] at hi';exact hb.row i' r hi'
 ·obtain ⟨r0,c0,k1,k2,e⟩:=key i' j' r c h1 h2;have h0:=hb.cell i' j' r0 c0 x k1 k2 h3
  rcases e with rfl|⟨rfl,rfl⟩
  ·exact h0.mono hm (fun _ _ h=>h)
  ·have hx:x=nu id len:=by
    cases h0 with
    | vec=>rfl
   rw [hx];exact hsl.mono hm (fun _ _ h=>h)
 ·obtain ⟨r0,c0,k1,k2,_⟩:=key i' j' r c h1 h2;exact hb.one i' j' r0 c0 x k1 k2 h3
theorem uN {s:AS} {k i j id:Nat} {ob ob2:aa} {row:List AV} (hne:id≠k) (hk:s.o[k]? = some (some ob)) (hz:0<ob.z) (hr:ob.rows[i]? = some row) (hj:row[j]? = some (.vec id 0)) (ho:s.o[id]? = some (some ob2)) (hv:ob2.du=false) (hz2:ob2.z=0) :
  w8 s (AS.mk s.t ((s.o.set id none).set k (some { ob with rows:=ob.rows.set i (row.set j (.mp ob2.rows)) })) s.y):=Lk (.mp ob2.rows) (fun D nu w h=>Hg h ho hv hz2) hne hk hz hr hj
end
def iM (l:List Nat):List (List AV):=l.zipIdx.map (fun p=>[.v (.int .i64 (p.1:Nat)), .v (.int .i64 (p.2:Nat))])
@[go_sem] theorem T8 (n:Nat) (l:List Nat):bZ n (iM l)=true:=aZ _ (fun p=>rfl) _
theorem BN (x:Nat): ∀(l:List Nat) (k:Nat),ky (.int .i64) (.int .i64 (x:Nat)) ((l.zipIdx k).map (fun p=>[.v (.int .i64 (p.1:Nat)), .v (.int .i64 (p.2:Nat))]))=some ((l.findIdx? (fun y=>x==y)).map (fun n=> .v (.int .i64 ((n+k:Nat):Int))))
 | [],k=>rfl
 | a :: l,k=>by
  have ih:=BN x l (k+1);rw [List.zipIdx_cons,WR,ky,if_pos (show cC (.int .i64) (.int .i64 (a:Nat))=true from rfl)]
  have e:dh (.int .i64 (x:Nat)) (.int .i64 (a:Nat))=(x==a):=by
   rw [dh,Bool.eq_iff_iff,beq_iff_eq,beq_iff_eq];omega
  rw [e,List.findIdx?_cons]
  cases h:x==a
  ·simp only [Bool.false_eq_true,if_false];rw [ih,Option.map_map]
   congr 2;funext i;simp;omega
  ·simp
theorem Mo (x:Nat) (l:List Nat):ky (.int .i64) (.int .i64 (x:Nat)) (iM l)=some ((l.findIdx? (fun y=>x==y)).map (fun n=> .v (.int .i64 (n:Nat)))):=BN x l 0
theorem BQ (x:Nat) (v:AV): ∀(l:List Nat) (k:Nat),l.findIdx? (fun y=>x==y)=none->jF (.int .i64) (.int .i64 (x:Nat)) v ((l.zipIdx k).map (fun p=>[.v (.int .i64 (p.1:Nat)), .v (.int .i64 (p.2:Nat))]))=some ((l.zipIdx k).map (fun p=>[.v (.int .i64 (p.1:Nat)), .v (.int .i64 (p.2:Nat))])++[[.v (.int .i64 (x:Nat)),v]])
 | [],k,_=>rfl
 | a :: l,k,h=>by
  rw [List.findIdx?_cons] at h
  have e:dh (.int .i64 (x:Nat)) (.int .i64 (a:Nat))=(x==a):=by
   rw [dh,Bool.eq_iff_iff,beq_iff_eq,beq_iff_eq];omega
  cases hh:x==a
  ·rw [hh] at h;simp only [Bool.false_eq_true,if_false,Option.map_eq_none_iff] at h;have ih:=BQ x v l (k+1) h;rw [List.zipIdx_cons,WR,jF,if_pos (show cC (.int .i64) (.int .i64 (a:Nat))=true from rfl),e,hh,if_neg (by decide),ih];rfl
  ·rw [hh] at h;simp at h
theorem Mp (x:Nat) (l:List Nat) (h:l.findIdx? (fun y=>x==y)=none):jF (.int .i64) (.int .i64 (x:Nat)) (.v (.int .i64 (l.length:Nat))) (iM l)=some (iM (l++[x])):=by
 rw [iM,BQ x _ l 0 h,iM,List.zipIdx_append];simp
theorem J9 {o:List (Option aa)} {z1 l1 z2 l2:Nat} {r1 r2:List (List AV)} (h1:bZ 0 r1=true) (h2:bZ 0 r2=true):cB o (.agg [.aH z1 r1 l1, .aH z2 r2 l2]) (.agg [.aH z1 r1 l1, .aH z2 r2 l2]):=
 cB.of 5 (p:=(AV.aH z1 r1 l1).wf 0=true∧(AV.aH z2 r2 l2).wf 0=true∧True) (by simp only [fK,fj]) ⟨by rw [AV.wf];exact h1,by rw [AV.wf];exact h2,trivial⟩
def gA (rows:List bn) (ends:List Bool):AV:= .agg (gV rows ends)
def te (n:Nat) (part:List Nat) (order:List Nat) (rows:List bn) (ends:List Bool):List (Option aa):=[some ⟨123,2,false,[[.vec 6 rows.length, .vec 7 rows.length]]⟩,some ⟨56,1,false,[[.aH 1 (aj part) n]]⟩,some ⟨199,0,false,iM (order.map (fun s=>part.getD s 0))⟩,some ⟨199,1,false,[[.vec 2 0]]⟩,some ⟨3,1,true,aj order⟩,some ⟨56,1,false,[[.vec 4 order.length]]⟩,some ⟨164,1,true,rows.map (fun r=>[.mp (cz r)])⟩,some ⟨4,1,true,ends.map (fun b=>[.v (.bool b)])⟩]
theorem Kn {rows:List bn} {ends:List Bool} (ok:RK rows ends) (h0:0<rows.length) (hpt:(cG rows ends).length=rows.length):ah Tryz.prog 85 [.vp (gV rows ends)] (gA (c8 rows ends (cG rows ends)).rows (c8 rows ends (cG rows ends)).ends):=by
 have hN:=ok.n;have hE:=ok.e;have CP:=KK ok;generalize hpart:cG rows ends=part at CP hpt
 have hA:bp 0 [AV.vp (gV rows ends)]=true:=by simp only [gV,bp,AV.wf,oh,oc,WT]
 have hF:(gA (c8 rows ends part).rows (c8 rows ends part).ends).wf 0=true:=by simp only [gA,gV,bp,AV.wf,oh,oc,WT]
 generalize hrv:gA (c8 rows ends part).rows (c8 rows ends part).ends=rv at hF ⊢
 (refine ah.oT Tryz.func85 rfl (by kernel_rfl) (by kernel_rfl) rfl hA hF ?_;simp only [Tryz.ntmps85,Tryz.results85,U9,U3,Nat.reduceAdd,Nat.reduceSub,WW,WX,WY,WZ])
 simp only [gV,hE] at CP hA ⊢
 have eP:(aj part).getD 0 []=[.v (.int .i64 ((part.getD 0 0:Nat):Int))]:=by
  rw [aj,VX,Vl,Vi (by omega),VX,Vi (by omega)];rfl
 repeat (first|(with_reducible first|refine ag.up ?_|refine fun (K:AK) hK=> ?_|refine wE ?_|refine wD ?_|refine wK ?_|refine wF ?_|(refine hK _ ?_;clear hK K))|simp only [go_sem]|with_reducible refine wA ?_|clear hK K)
 refine ab.one CP ?_
 repeat ((fail_if_success (with_reducible refine bL (i:=4) ?_));first|(with_reducible first|refine ag.up ?_|refine fun (K:AK) hK=> ?_|refine wK ?_|refine wF ?_|(refine hK _ ?_;clear hK K))|simp only [go_sem,eP]|with_reducible refine wA ?_|clear hK K)
 refine bU (fh (k:=0) (i:=0) (j:=0) 164 1 (by decide) rfl (by decide) rfl rfl) (by kernel_rfl) ?_;simp only [WO,WN,U9,U3,Nat.reduceAdd,WY,WZ];refine bU (fh (k:=0) (i:=0) (j:=1) 4 1 (by decide) rfl (by decide) rfl rfl) (by kernel_rfl) ?_;simp only [WO,WN,U9,U3,Nat.reduceAdd,WY,WZ]
 repeat (first|(with_reducible first|refine ag.up ?_|refine fun (K:AK) hK=> ?_|refine wE ?_|refine wD ?_|refine wK ?_|refine wF ?_|(refine hK _ ?_;clear hK K))|simp only [go_sem]|with_reducible refine wA ?_|clear hK K)
 refine bI (ι:=w5) 7 (fun st=>[(6, .v (.int .i64 st.rows.length))]) (fun st=>te rows.length part st.order st.rows st.ends) (fun st=>rows.length+1 - st.rows.length) (fun st=>Fy rows part st∧gA (nQ rows ends part (rows.length+1 - st.rows.length) st).rows (nQ rows ends part (rows.length+1 - st.rows.length) st).ends=rv) q0
  ⟨HY rows part h0,hrv⟩ ?_ ?_
 ·simp only [te,q0]
  (refine aq ?_ ?_ ?_<;>simp only [aD,WJ,WK,WW,WX,aW,aY,AV.v.injEq,Value.int.injEq,Value.bool.injEq,Value.string.injEq,AV.vec.injEq,AV.ptr.injEq,true_or,or_true,false_or,or_false,aa.mk.injEq,forall_eq_apply_imp_iff,forall_eq,forall_eq',go_sem])
  all_goals first|rfl|exact ⟨rfl,rfl⟩|exact ⟨rfl,rfl,rfl⟩|exact ⟨⟨rfl,rfl⟩,rfl⟩|trace_state
 ·rintro st ⟨hok,hrun⟩ K hK;have hol:=nK part hok.nd hok.lt;have hle:=hok.le;have hel:=hok.ends
  have eL: ∀l:List Nat,(aj l).length=l.length:=fun l=>by simp [aj]
  simp only [te]
  repeat (first|(with_reducible first|refine ag.up ?_|refine fun (K:AK) hK=> ?_|refine wE ?_|refine wD ?_|refine wK ?_|refine wF ?_|(refine hK _ ?_;clear hK K))|simp only [go_sem,eL]|with_reducible refine wA ?_|clear hK K)
  refine eJ.part (fun h=> ?_) (fun h=> ?_)
  ·have hlt:st.rows.length<st.order.length:=by (try simp only [bne_iff_ne,ne_eq,bne_eq_false_iff_eq,beq_iff_eq,beq_eq_false_iff_ne,decide_eq_true_eq,decide_eq_false_iff_not,W5,Int.natCast_inj,Int.ofNat_lt,Int.ofNat_le] at h);omega
   have hcu:iq st<rows.length:=hok.lt _ (bQ hlt);have eW:=aB (k:=st.rows.length) (by omega)
   have eG:(aj st.order).getD st.rows.length []=[.v (.int .i64 ((iq st:Nat):Int))]:=by
    rw [iq,aj,VX,Vl,Vi hlt,VX,Vi hlt];rfl
   have CS:=CM rows ends (iq st);have hlr:=ok.lab _ (WA hcu);have hln:=ok.len _ (WA hcu);have hseq:=uK rows ends (iq st) hcu (by omega) (fun p hp=>Nat.le_trans (hlr p hp).1 (by decide)) (ok.iC _ (WA hcu)) (by omega);simp only [gV,hE] at CS hseq;have hri:=ok.iC _ (WA hcu)
   have hg:rows.getD (iq st) []=rows[iq st]:=by rw [VX,Vi hcu];rfl
   have hnx:fy rows ends part st=⟨(dR part st.order rows[iq st]).1,st.rows++[(dR part st.order rows[iq st]).2],st.ends++[ends.getD (iq st) false]⟩:=by rw [fy,hg]
   generalize rows[iq st]=row at hlr hln hseq hnx hri hg;rw [show rows.length+1 - st.rows.length=(rows.length - st.rows.length)+1 by omega,nQ,if_pos hlt] at hrun
   repeat (first|(with_reducible first|refine ag.up ?_|refine fun (K:AK) hK=> ?_|refine wE ?_|refine wD ?_|refine wK ?_|refine wF ?_|(refine hK _ ?_;clear hK K))|simp only [go_sem,eG,eL,h]|with_reducible refine wA ?_|clear hK K)
   refine ab.one CS ?_
   repeat (first|(with_reducible first|refine ag.up ?_|refine fun (K:AK) hK=> ?_|refine wE ?_|refine wD ?_|refine wK ?_|refine wF ?_|(refine hK _ ?_;clear hK K))|simp only [go_sem]|with_reducible refine wA ?_|clear hK K)
   refine mz hseq 35 (fun k=>te rows.length part (dR part st.order (row.take k)).1 st.rows st.ends++[some ⟨164,0,false,cz (dR part st.order (row.take k)).2⟩,some ⟨164,1,false,[[.vec 8 0]]⟩]) (fun k=>k<=row.length) (Nat.zero_le _) ?_ ?_ ?_ (by kernel_rfl) (by kernel_rfl) ?_ ?_ ?_
   ·repeat (first|(with_reducible first|refine ag.up ?_|refine fun (K:AK) hK=> ?_|refine wE ?_|refine wD ?_|refine wK ?_|refine wF ?_|(refine hK _ ?_;clear hK K))|simp only [go_sem]|with_reducible refine wA ?_|clear hK K)
   ·simp only [bp,AV.wf,oh,oc,WT]
   ·simp only [te,WY,WZ,List.take_zero,dR,WK]
    (refine aq ?_ ?_ ?_<;>simp only [aD,WJ,WK,WW,WX,aW,aY,AV.v.injEq,Value.int.injEq,Value.bool.injEq,Value.string.injEq,AV.vec.injEq,AV.ptr.injEq,true_or,or_true,false_or,or_false,aa.mk.injEq,forall_eq_apply_imp_iff,forall_eq,forall_eq',go_sem])
    all_goals rfl
   ·intro x hx;obtain ⟨o,_,rfl⟩:=List.mem_map.1 hx
    rfl
   ·intro k x hk hx
    obtain ⟨hkl,hx⟩: ∃h:k<row.length,x=[.v (.string row[k].1), .v (.int .i64 (row[k].2:Nat))]:=by
     obtain ⟨h1,h2⟩:=U4.1 hx;simp only [cz,VW] at h1;exact ⟨h1,by rw [<-h2];simp [cz]⟩
    subst hx;obtain ⟨hz1,hz2⟩:=hlr _ (WA hkl)
    have eT:(aj part).getD row[k].2 []=[.v (.int .i64 ((part.getD row[k].2 0:Nat):Int))]:=by
     rw [aj,VX,Vl,Vi (by omega),VX,Vi (by omega)];rfl
    have hI:=lO part st.order (row.take k) row[k];rw [<-List.take_succ_eq_append_getElem hkl,EO] at hI;obtain ⟨k1,k2,k3,k4,k5,_⟩:=qt part (n:=rows.length) hok.nd hok.lt (row.take k) (fun p hp=>(hlr _ (List.mem_of_mem_take hp)).2);have hdl:=nK part k1 k2
    have hnl:look (dR part st.order (row.take k)).2 row[k].1=none:=pe.2 fun q=>by
     rw [k5] at q;exact vS (l:=row.map Prod.fst) (qv hri) (i:=k) (by simpa using hkl) (by simpa [List.map_take] using q)
    rcases hqs:dR part st.order (row.take k) with ⟨od,ow⟩
    rw [hqs] at hI k1 k2 k3 k4 k5 hdl hnl;simp only at hI k1 k2 k3 k4 k5 hdl hnl;have eA:=Mo (part.getD row[k].2 0) (od.map (fun s=>part.getD s 0));have hqp:(od.map (fun s=>part.getD s 0)).findIdx? (fun y=>part.getD row[k].2 0==y)=A8 part od (part.getD row[k].2 0):=rfl;simp only [te,WY,WZ]
    cases hp:A8 part od (part.getD row[k].2 0) with
    | some n=>
     rw [hqp,hp] at eA;rw [hp] at hI;simp only [Option.map_some] at eA hI;have eS:=oH row[k].1 n ow hnl
     repeat (first|(with_reducible first|refine ag.up ?_|refine fun (K:AK) hK=> ?_|refine wE ?_|refine wD ?_|refine wK ?_|refine wF ?_|(refine hK _ ?_;clear hK K))|simp only [go_sem,eT,eA,eS]|with_reducible refine wA ?_|clear hK K)
     simp only [te,WY,WZ,hI]
     (refine aq ?_ ?_ ?_<;>simp only [aD,WJ,WK,WW,WX,aW,aY,AV.v.injEq,Value.int.injEq,Value.bool.injEq,Value.string.injEq,AV.vec.injEq,AV.ptr.injEq,true_or,or_true,false_or,or_false,aa.mk.injEq,forall_eq_apply_imp_iff,forall_eq,forall_eq',go_sem])
    | none=>
     rw [hqp,hp] at eA;rw [hp] at hI;simp only [Option.map_none] at eA hI;have eS:=oH row[k].1 od.length ow hnl;have eK:=Mp (part.getD row[k].2 0) (od.map (fun s=>part.getD s 0)) (hqp.trans hp);rw [VW] at eK
     repeat (first|(with_reducible first|refine ag.up ?_|refine fun (K:AK) hK=> ?_|refine wE ?_|refine wD ?_|refine wK ?_|refine wF ?_|(refine hK _ ?_;clear hK K))|simp only [go_sem,eT,eA,eS,eK,eL]|with_reducible refine wA ?_|clear hK K)
     simp only [te,WY,WZ,hI]
     (refine aq ?_ ?_ ?_<;>simp only [aD,WJ,WK,WW,WX,aW,aY,AV.v.injEq,Value.int.injEq,Value.bool.injEq,Value.string.injEq,AV.vec.injEq,AV.ptr.injEq,true_or,or_true,false_or,or_false,aa.mk.injEq,forall_eq_apply_imp_iff,forall_eq,forall_eq',go_sem])
     exact ⟨by rw [XK];rfl,by simp [aj]⟩
   ·intro _
    have hmr:(cz row).length=row.length:=by simp [cz]
    simp only [hmr,List.take_length];obtain ⟨k1,k2,k3,k4,k5,t,k6⟩:=qt part (n:=rows.length) hok.nd hok.lt row (fun p hp=>(hlr _ hp).2);have hdl:=nK part k1 k2
    rcases hqs:dR part st.order row with ⟨od,ow⟩
    rw [hqs] at k1 k2 k3 k4 k5 k6 hdl hnx;simp only at k1 k2 k3 k4 k5 k6 hdl hnx
    have eG2:(aj od).getD st.rows.length []=[.v (.int .i64 ((iq st:Nat):Int))]:=by
     rw [k6,aj,XK,cJ (by rw [VW];exact hlt)];exact eG
    have eE:(ends.map (fun b=>[AV.v (.bool b)])).getD (iq st) []=[.v (.bool (ends.getD (iq st) false))]:=by
     rw [VX,Vl,Vi (by omega),VX,Vi (by omega)];rfl
    generalize ends.getD (iq st) false=be at eE hnx;simp only [te,WY,WZ]
    repeat ((fail_if_success (with_reducible refine bL (i:=17) ?_));first|(with_reducible first|refine ag.up ?_|refine fun (K:AK) hK=> ?_|refine wK ?_|refine wF ?_|(refine hK _ ?_;clear hK K))|simp only [go_sem]|with_reducible refine wA ?_|clear hK K)
    refine bU (uN (k:=9) (i:=0) (j:=0) (by decide) rfl (X1 _) rfl rfl rfl rfl rfl) (by kernel_rfl) ?_;simp only [WO,WN]
    repeat (first|(with_reducible first|refine ag.up ?_|refine fun (K:AK) hK=> ?_|refine wE ?_|refine wD ?_|refine wK ?_|refine wF ?_|(refine hK _ ?_;clear hK K))|simp only [go_sem,eG2,eE,eL,eW]|with_reducible refine wA ?_|clear hK K)
    have hnok:Fy rows part (fy rows ends part st):=sj rows ends part (fun r hr p hp=>(ok.lab r hr p hp).2) hok hlt;rw [hnx] at hnok hrun
    refine aJ.mk ⟨od,st.rows++[ow],st.ends++[be]⟩ ⟨hnok, ?_⟩ ?_ ?_
    ·rw [show rows.length+1 - (w5.rows ⟨od,st.rows++[ow],st.ends++[be]⟩).length=rows.length - st.rows.length by simp only [U8,XM];omega];exact hrun
    ·show rows.length+1 - (st.rows++[ow]).length<rows.length+1 - st.rows.length;rw [U8,XM];omega
    ·simp only [te,U8,XM,XK,WR,List.map_nil]
     (refine aq ?_ ?_ ?_<;>simp only [aD,WJ,WK,WW,WX,aW,aY,AV.v.injEq,Value.int.injEq,Value.bool.injEq,Value.string.injEq,AV.vec.injEq,AV.ptr.injEq,true_or,or_true,false_or,or_false,aa.mk.injEq,forall_eq_apply_imp_iff,forall_eq,forall_eq',go_sem])
     all_goals trace_state
  ·have hge:st.rows.length=st.order.length:=by (try simp only [bne_iff_ne,ne_eq,bne_eq_false_iff_eq,beq_iff_eq,beq_eq_false_iff_ne,decide_eq_true_eq,decide_eq_false_iff_not,W5,Int.natCast_inj,Int.ofNat_lt,Int.ofNat_le] at h);omega
   rw [show rows.length+1 - st.rows.length=(rows.length - st.rows.length)+1 by omega,nQ,if_neg (by omega)] at hrun;clear h
   repeat ((fail_if_success (with_reducible refine bL (i:=19) ?_));first|(with_reducible first|refine ag.up ?_|refine fun (K:AK) hK=> ?_|refine wK ?_|refine wF ?_|(refine hK _ ?_;clear hK K))|simp only [go_sem]|with_reducible refine wA ?_|clear hK K)
   refine bU (lr (k:=0) (i:=0) (j:=0) (by decide) rfl (X1 _) rfl rfl rfl rfl (VW _)) (by kernel_rfl) ?_;simp only [WO,WN];refine bU (lr (k:=0) (i:=0) (j:=1) (by decide) rfl (X1 _) rfl rfl rfl rfl ((VW _).trans hel)) (by kernel_rfl) ?_;simp only [WO,WN]
   repeat (first|(with_reducible first|refine ag.up ?_|refine fun (K:AK) hK=> ?_|refine wE ?_|refine wD ?_|refine wK ?_|refine wF ?_|(refine hK _ ?_;clear hK K))|simp only [go_sem]|with_reducible refine wA ?_|clear hK K)
   rw [<-hrun];simp only [gA,gV,hel];exact J9 (oh _ _) (oc _ _)
end
end Go.Proofs.YtlhhccmopfamhaaGreatDoor
