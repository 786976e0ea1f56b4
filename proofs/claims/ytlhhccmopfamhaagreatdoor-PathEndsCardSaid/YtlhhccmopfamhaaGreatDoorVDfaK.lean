/- texts of one claim, one behind the other. -/
import Derived.Test.YtlhhccmopfamhaaGreatDoorVLent
import Derived.Test.YtlhhccmopfamhaaGreatDoorVDfaQ
import Derived.Shelf.SlIter.Sorted
import Derived.Shelf.SortM.Plain
import Derived.Shelf.SortM.SortNone
import Derived.Test.YtlhhccmopfamhaaGreatDoorVMat
import Derived.Test.YtlhhccmopfamhaaGreatDoorVAbsV
import Derived.Shelf.Strconv.Itoa3
import Derived.Shelf.Strings.BuilderK
import Derived.Lib.AppendIntMem
set_option linter.unusedSimpArgs false
set_option linter.unusedVariables false
set_option maxRecDepth 100000
set_option maxHeartbeats 16000000
open Bool renaming and_self -> agp, true_and -> afi, or_eq_true -> afa, false_eq_true -> afq, and_eq_true -> aeW, eq_iff_iff -> af7
open Classical renaming byContradiction -> agC
open List renaming map_cons -> afZ, cons_append -> afz, getElem?_eq_getElem -> aes, ext_getElem -> agf, getElem_mem -> afm, pairwise_iff_getElem -> agu, map_map -> agB, length_map -> agv, getElem?_cons_zero -> afr, getD_eq_getElem?_getD -> aeS, getElem?_map -> aeu, mem_cons_of_mem -> aeX, map_nil -> agt, nil_append -> afy, take_succ_eq_append_getElem -> agD, take_length -> agE, foldl_cons -> afD, drop_eq_getElem_cons -> afW, length_append -> aem, append_assoc -> agx, length_singleton -> agz, take_append_drop -> agG, foldl_append -> agw, mem_cons -> afO, take_of_length_le -> agH, length_cons -> ae0, eq_nil_of_length_eq_zero -> afM, exists_mem_of_ne_nil -> agI, mem_cons_self -> afg, eq_nil_iff_forall_not_mem -> agJ
open List.cons renaming injEq -> agk
open Nat renaming lt_or_ge -> aei
open Option.some renaming injEq -> aep
open BitVec renaming getLsbD_or -> agF, getLsbD_and -> afU
open Option renaming map_eq_some_iff -> aeN
namespace Go.Proofs.YtlhhccmopfamhaaGreatDoor
open Go.RowKit
open Go.Proofs.Tryz
def Fy:Go.Shelf.Ren:=⟨fun|7=>159|10=>201|n=>n,fun|23=>164|26=>9|3=>3|28=>244|0=>0|27=>243|33=>157|4=>4|n=>n,λn=>n⟩
theorem Ba:SlLaysZ.n7 prog Fy:={
 mixed:=zo
 f7:=⟨Tryz.f159.name,zs,func159⟩
 f10:=⟨Tryz.f201.name,zs,func201⟩
 t0:=zo
 a0:=λw=>zo
 z0:=λw=>zo
 v0:=λw=>zo
 t4:=zo
 a4:=λw=>zo
 z4:=λw=>zo
 v4:=λw=>zo
 t23:=zo
 a23:=λw=>zo
 z23:=λw=>zo
 v23:=λw=>zo
 t26:=zo
 a26:=λw=>zo
 z26:=λw=>zo
 v26:=λw=>zo
 t27:=zo
 a27:=λw=>zo
 z27:=λw=>zo
 v27:=λw=>zo
 t28:=zo
 a28:=λw=>zo
 z28:=λw=>zo
 v28:=λw=>zo
 t33:=zo
 a33:=λw=>zo
 z33:=λw=>zo
 v33:=λw=>by kernel_rfl}
def zC:Go.Shelf.Ren:=⟨fun|6=>158|8=>200|9=>115|11=>220|13=>135|12=>148|23=>171|24=>172|14=>189|15=>190|16=>191|17=>192|18=>193|19=>194|20=>195|21=>196|22=>197|25=>215|26=>204|27=>205|28=>216|29=>217|30=>96|31=>224|n=>n,fun|26=>9|28=>244|24=>55|0=>0|3=>3|37=>212|48=>184|50=>256|4=>4|40=>249|39=>248|45=>105|5=>5|9=>9|51=>279|55=>283|57=>296|58=>297|33=>157|n=>n,λn=>n⟩
theorem Gm:SlLaysZ.n6 prog zC:={
 mixed:=zo
 f6:=⟨Tryz.f158.name,zs,func158⟩
 f8:=⟨Tryz.f200.name,zs,func200⟩
 f11:=⟨Tryz.f220.name,zs,func220⟩
 t0:=zo
 a0:=λw=>zo
 z0:=λw=>zo
 v0:=λw=>zo
 t24:=zo
 a24:=λw=>zo
 z24:=λw=>zo
 v24:=λw=>zo
 t26:=zo
 a26:=λw=>zo
 z26:=λw=>zo
 v26:=λw=>zo
 t28:=zo
 a28:=λw=>zo
 z28:=λw=>zo
 v28:=λw=>zo
 i26:=by kernel_rfl}
def Ro:Go.Shelf.Ren:=⟨fun|6=>115|8=>135|9=>148|19=>171|20=>172|21=>189|22=>190|23=>191|24=>192|25=>193|26=>194|27=>195|28=>196|29=>197|36=>215|31=>204|32=>205|37=>216|38=>217|39=>96|41=>224|n=>n,fun|27=>55|29=>9|3=>3|32=>212|26=>55|0=>0|44=>184|46=>256|4=>4|36=>249|35=>248|41=>105|5=>5|9=>9|53=>279|57=>283|63=>296|64=>297|n=>n,λn=>n⟩
theorem qK:SlLaysM.n6 prog Ro:={
 mixed:=zo
 f6:=⟨Tryz.f115.name,zs,func115⟩
 f8:=func135
 f9:=⟨Tryz.f148.name,zs,func148⟩
 f19:=func171
 f20:=func172
 f21:=⟨Tryz.f189.name,zs,func189⟩
 f22:=⟨Tryz.f190.name,zs,func190⟩
 f23:=⟨Tryz.f191.name,zs,func191⟩
 f24:=⟨Tryz.f192.name,zs,func192⟩
 f25:=⟨Tryz.f193.name,zs,func193⟩
 f26:=⟨Tryz.f194.name,zs,func194⟩
 f27:=⟨Tryz.f195.name,zs,func195⟩
 f28:=⟨Tryz.f196.name,zs,func196⟩
 f29:=⟨Tryz.f197.name,zs,func197⟩
 f31:=func204
 f32:=func205
 f36:=⟨Tryz.f215.name,zs,func215⟩
 f37:=⟨Tryz.f216.name,zs,func216⟩
 f38:=⟨Tryz.f217.name,zs,func217⟩
 f39:=⟨Tryz.f96.name,zs,func96⟩
 f41:=⟨Tryz.f224.name,zs,func224⟩
 t0:=zo
 a0:=λw=>zo
 z0:=λw=>zo
 v0:=λw=>zo
 t3:=zo
 a3:=λw=>zo
 z3:=λw=>zo
 v3:=λw=>zo
 t4:=zo
 a4:=λw=>zo
 z4:=λw=>zo
 v4:=λw=>zo
 t5:=zo
 a5:=λw=>zo
 z5:=λw=>zo
 v5:=λw=>zo
 t9:=zo
 a9:=λw=>zo
 z9:=λw=>zo
 v9:=λw=>zo
 t26:=zo
 a26:=λw=>zo
 z26:=λw=>zo
 v26:=λw=>zo
 t27:=zo
 a27:=λw=>zo
 z27:=λw=>zo
 v27:=λw=>zo
 t29:=zo
 a29:=λw=>zo
 z29:=λw=>zo
 v29:=λw=>zo
 t32:=zo
 a32:=λw=>zo
 z32:=λw=>zo
 v32:=λw=>zo
 t35:=zo
 a35:=λw=>zo
 z35:=λw=>zo
 v35:=λw=>zo
 t36:=zo
 a36:=λw=>zo
 z36:=λw=>zo
 v36:=λw=>zo
 t41:=zo
 a41:=λw=>zo
 z41:=λw=>zo
 v41:=λw=>zo
 t44:=zo
 a44:=λw=>zo
 z44:=λw=>zo
 v44:=λw=>zo
 t46:=zo
 a46:=λw=>zo
 z46:=λw=>zo
 v46:=λw=>zo
 t53:=zo
 a53:=λw=>zo
 z53:=λw=>zo
 v53:=λw=>zo
 t57:=zo
 a57:=λw=>zo
 z57:=λw=>zo
 v57:=λw=>zo
 t63:=zo
 a63:=λw=>zo
 z63:=λw=>zo
 v63:=λw=>zo
 t64:=zo
 a64:=λw=>zo
 z64:=λw=>zo
 v64:=λw=>by kernel_rfl}
def dD(r:bD):List C5:=r.map (λp=>[.v (.string p.1),.v (.int .i64 (p.2:Nat))])
theorem Qa(r:bD):(dD r).length=r.length:=by simp[dD]
@[go_sem] theorem xr(n:Nat)(r:bD):bE n (dD r)=true:=bt _ (λp=>rfl) _
theorem Cf(s:ByteArray):∀r:bD,o9 .string (.string s) (dD r)=some ((look r s).map (λn=> .v (.int .i64 (n:Nat))))
 | []=>rfl
 |p::l=>by
  have ih:=Cf s l;simp only[dD,afZ,o9];rw[if_pos (show dH .string (.string p.1)=true from rfl)]
  by_cases h:fx (.string s) (.string p.1)=true
  ·have u:fR s p.1=true:=h;rw[if_pos h];grind[look]
  ·have u:fR s p.1=false:=by
    cases q:fR s p.1
    ·rfl
    ·exact absurd q h
   rw[if_neg h];grind[dD,look]
theorem uA(s:ByteArray)(n:Nat):∀r:bD,look r s=none->nF .string (.string s) (.v (.int .i64 (n:Nat))) (dD r)=some (dD (r++[(s,n)]))
 | [],_=>rfl
 |p::l,hn=>by
  simp only[dD,afZ,nF,afz];rw[if_pos (show dH .string (.string p.1)=true from rfl)]
  by_cases h:fx (.string s) (.string p.1)=true
  ·have u:fR s p.1=true:=h
   grind[look]
  ·have u:fR s p.1=false:=by
    cases q:fR s p.1
    ·rfl
    ·exact absurd q h
   have ih:=uA s n l (by grind[look]);rw[if_neg h];grind[dD]
@[go_sem] theorem uj(n:Nat)(rows:N3):bE n (rows.map (λr=>[AV.mp (dD r)]))=true:=bt _ (λr=>by grind[aQ,AV.wf,xr,agp]) _
@[go_sem] theorem ui(n:Nat)(ends:N2):bE n (ends.map (λb=>[AV.v (.bool b)]))=true:=bt _ (λr=>rfl) _
def gV(rows:N3)(ends:N2):C5:=[.aA 1 (rows.map (λr=>[.mp (dD r)])) rows.length,.aA 1 (ends.map (λb=>[.v (.bool b)])) ends.length]
section
open Go.Maps Go.Sort Go.WideElems
theorem aax:prog.underlying 9=some .string:=zo
def Oi(_:Value):Option (DataW Unit×List MemPlace):=some (.lit (.bool true),[])
def vY(r:bD):List (List UInt8):=r.map (λp=>p.1.data.toList)
theorem W5{e:MapEntry}{s:ByteArray}(u:e.key=.string s)(q:s.size<=maxLen):rd prog 9 Oi e=some (.string s.data.toList,.lit (.bool true)):=by
 unfold WideElems.rd;rw[u,Go.WideMaps.keyOf_string_mk aax q];rfl
theorem T5{D:Nat->Prop}{nu:EQ}{o:AC}{w:World}{r:bD}{x:Value}(h:RA D nu o w (.mp (dD r)) x)(W:∀p∈r,p.1.size<=maxLen)(hn:(r.map Prod.fst).Nodup)(hl:r.length<=1000000) :
  ∃b O,x=.map (some b)∧b<w.heap.size∧w.ownsMap prog 9 Oi b r.length O∧(strKeys O).Perm (vY r)∧Maps.size O=r.length:=by
 cases h with
 |mp _ b es cl h1 h2 h3 h4 h5 h6 h7=>
 have hlen:es.size=r.length:=by rw[h3,Qa]
 have A:∀(i:Nat)(hi:i<es.toList.length),es[i]?=some es.toList[i]:=λi hi=>by grind
 have Y:∀(i:Nat)(hi:i<es.toList.length)(q:i<r.length),(es.toList[i]).key=Value.string r[i].1:=λi hi q=>by
  have u:(dD r)[i]?=some [.v (.string r[i].1),.v (.int .i64 (r[i].2:Nat))]:=by grind[dD,aes]
  exact(h7 i 0 _ _ _ u rfl (A i hi)).plain
 have hkeys:es.toList.map (λe=>e.key)=r.map (λp=>Value.string p.1):=agf (by simp[hlen]) λi V U=>by
  grind
 have H:∀(i:Nat)(hi:i<es.toList.length)(q:i<r.length),rd prog 9 Oi es.toList[i]=some (.string r[i].1.data.toList,.lit (.bool true)):=λi hi q=>W5 (Y i hi q) (W _ (afm q))
 refine⟨b,_,rfl,h1.1,⟨es,cl,h2,⟨by grind[maxLen],⟨?_,?_,?_⟩,?_⟩,zd,rfl⟩,?_,?_⟩
 ·grind[List.getElem_of_mem]
 ·grind[agu]
 ·grind
 ·grind[List.getElem_of_mem]
 ·rw[strKeys];refine((WideShapes.sorted_perm _).map _).trans (List.Perm.of_eq ?_);rw[agB];refine agf (by grind[vY]) λi V U=>?_
  have hi:i<es.toList.length:=by grind
  simp only[vY,List.getElem_map,Function.comp];rw[rg_of (H i hi (by grind))];rfl
 ·show(List.foldr DataW.insert [] _).length=_;rw[(WideShapes.sorted_perm _).length_eq,agv];simp[hlen]
def l8(l:B0):Prop:=l.Pairwise (λa b=>a.data.toList<b.data.toList)
theorem Mt{r:bD}(h:l8 (r.map Prod.fst)):(vY r).mergeSort (λx y=>decide (x<=y))=vY r:=by
 grind[List.mergeSort_of_pairwise,vY,l8,decide_eq_true,List.le_of_lt]
theorem oN{l:B0}(h:l8 l):l.Nodup:=h.imp λ{a b}hh e=>by grind
end
def Zo(_:Nat->Prop)(_:World)(x:Value):Prop:=∃b,x=.pointer (some ⟨b,0,none⟩)
def Fx(r:bD):AV:= .fn 201 [] [.ju Zo (.vp [.mp (dD r)])]
@[go_sem] theorem GO(n:Nat)(r:bD):(Fx r).wf n=true:=by simp only[Fx,AV.wf,aQ,xr,agp]
theorem TO(r:bD):aj prog 159 [.mp (dD r)] (Fx r):=by
 refine⟨⟨by grind[aQ,AV.wf,xr,agp],GO 0 r⟩,zo,λD nu w vargs u A=>?_⟩;obtain⟨x,rfl,U⟩:=ic A
 obtain⟨b,rfl⟩:∃b,x=.map (some b):=by cases U;grind
 refine((callsIn_wide (n:=5)).1 (AnyZ.keys_in Ba Fence.wide 5 trivial rfl (some b) w)).mono ?_;rintro e w' ⟨rfl,rfl⟩;have H:Below w.heap.size w (w.alloc (.cells #[.map (some b)] 164)):=(Below.refl _ _).alloc (Nat.le_refl _) _;have W:Fz D nu [] (w.alloc (.cells #[.map (some b)] 164)) w.heap.size:=⟨zk,br _ _,u.up _ (Nat.le_refl _)⟩;refine⟨_,nu,[],Fx r,rfl,aH H,u.below H,?_,rfl,rfl⟩;refine .fn _ _ _ _ _ rfl rfl (λi c x h=>by simp at h) (λi c y O V=>?_)
 cases i with
 |succ i=>simp at O
 |zero=>
  simp only[afr,aep]at O;simp at V;subst O;subst V
  refine .ju _ _ _ (λ_=>False) rfl (λb h=>h.elim) (λb h=>h.elim) (λw' _=>⟨_,rfl⟩) (.vp _ _ 0 (λ_=> .map (some b)) W (λj c q=>?_) (λj c q=>?_) (λj c q=>rfl))
  ·cases j with
   |succ j=>simp at q
   |zero=>
    have h:=gO w (.cells #[.map (some b)] 164);exact(xW h 0).trans rfl
  ·cases j with
   |succ j=>simp at q
   |zero=>
    simp only[afr,aep]at q;subst q;exact U.mono (aH H) (λ_ _ h=>h)
theorem Xf(m:Nat):AnyZ.SortsIn prog zC Fence.wide m:=
 ⟨λez off cap ss W u hblk q=>callsIn_wide.2 (AnyM.slices_Sort_string qK ez off cap ss W u hblk q),
  λp cap W=>callsIn_wide.2 (AnyM.slices_Sort_string_none qK p cap W)⟩
theorem No(r:bD)(hs:∀p∈r,p.1.size<=maxLen)(V:l8 (r.map Prod.fst))(hl:r.length<=1000000):aj prog 158 [Fx r] (bZ (r.map Prod.fst)):=
 .Kz zo (by grind[aQ,GO,agp]) (λD nu w vargs H=>by
  obtain⟨x,rfl,hx⟩:=ic H
  cases hx with
  |fn _ _ _ fi ca h1 h2 h3 h4=>
  obtain⟨y,rfl,hy⟩:=ic (D:=D) (nu:=nu) (o:=[]) (w:=w) ⟨h2,h4⟩;obtain rfl:fi = #[]:=Array.eq_empty_of_size_eq_zero (by grind)
  cases hy with
  |ju _ _ _ S k0 k1 k2 k3 k4=>
  obtain⟨Bm,rfl⟩:=k3 w (λ_ _=>rfl)
  cases k4 with
  |vp _ _ _ f q1 q2 q3 q4=>
  have O:=q2 0 _ rfl;have A:=q3 0 _ rfl;obtain⟨b,D0,e0,hb,u,hperm,hsize⟩:=T5 A hs (oN V) hl;rw[e0]at O;simp only[Nat.add_zero]at O;have q:=AnyZ.keys_gives (ρ:=Fy) {Ba with} Fence.wide 2 trivial rfl zd Bm b r.length D0 w q1.1 O u;have cS:=AnyZ.sorted_in Gm Fence.wide 5 trivial trivial trivial trivial rfl zd (Xf _) (enters_of func115 zo rfl) 201 #[.pointer (some ⟨Bm,0,none⟩)] trivial (enters_of func201 zo rfl) _ _ (by grind[maxLen]) zd w q;refine((callsIn_wide (n:=5)).1 cS).mono ?_;rintro e w' ⟨v,ss,rfl,Y,U,W,hbl⟩
  have hlen:ss.length=(r.map Prod.fst).length:=by rw[Y.length_eq,hperm.length_eq,vY,agv,agv]
  have hk:(ss.mergeSort (λx y=>decide (x<=y))).map encStr=(r.map Prod.fst).map Value.string:=by
   rw[Go.mergeSort_of_perm (Y.trans hperm),Mt V,vY,agB,agB]
   simp_all
  grind[Je,MQ])
theorem T3{r:bD}{i:Nat}(h:i<r.length):dD (r.drop i)=[.v (.string r[i].1),.v (.int .i64 (r[i].2:Nat))]::dD (r.drop (i+1)):=by
 grind[dD,List.drop_eq_getElem_cons]
theorem Wy{r:bD}(q:l8 (r.map Prod.fst)){i:Nat}(h:i<r.length):look r r[i].1=some r[i].2:=Dk (oN q) (afm h)
theorem BK(rows:N3)(ends:N2)(s:Nat)(O:s<rows.length)(V:rows.length<=1000000)(H:∀p∈rows[s],p.1.size<=maxLen)(A:l8 (rows[s].map Prod.fst))(hl:rows[s].length<=1000000) :
  uw prog 157 [.vp [.vp (gV rows ends)],.vp [.v (.int .i64 (s:Nat))]] [] (dD rows[s]):=by
 have CK:=TO rows[s];have CS:=No rows[s] H A hl
 have e0:dD rows[s]=dD (rows[s].drop 0):=by rw[List.drop_zero]
 have eR:(rows.map (λr=>[AV.mp (dD r)])).getD s []=[.mp (dD rows[s])]:=by
  rw[aeS,aeu,aes O];rfl
 rw[show uw prog 157 [.vp [.vp (gV rows ends)],.vp [.v (.int .i64 (s:Nat))]] [] (dD rows[s])=uw prog 157 [.vp [.vp (gV rows ends)],.vp [.v (.int .i64 (s:Nat))]] [] (dD (rows[s].drop 0)) by rw[<-e0]];simp only[gV,bZ,agv]at *
 (refine uw.enter func157 rfl zo zo rfl (λl=>?_);simp only[ntmps157,results157,List.length_cons,List.length_nil,Nat.reduceAdd,Nat.reduceSub,List.replicate_succ,List.replicate_zero,afz,List.nil_append])
 (refine ak eR ?_;intro K hK)
 refine bG [] [] za zo ?_
 (revert K;refine ak eR ?_;intro K hK K hK)
 (revert K;revert K;refine Io CK eR ?_;intro K hK K hK)
 (revert K;revert K;refine Io CS eR ?_)
 refine uD (ι:=Nat) 17 (λi=>[(16,.v (.int .i64 i)),(5,.undef)]) (λi=>[]) (λi=> .run l (dD (rows[s].drop i))) (λi=>rows[s].length-i) (λi=>i<=rows[s].length) 0 zd ?_ ?_
 ·refine ab (bF ?_) ar ar
  rfl
 ·rintro i hi K hK
  (revert K;refine ag ?_;intro K hK K hK)
  refine cn.part (λh=>?_) (λh=>?_)
  ·have q:i<rows[s].length:=by replace h:=cq h;omega
   have eW:=ae (k:=i) zd
   have eG:(List.map encS (List.map Prod.fst rows[s])).getD i []=[.v (.string rows[s][i].1)]:=by
    rw[aeS,aeu,aeu,aes q];rfl
   have eY:=T3 q;have eA:=Cf rows[s][i].1 rows[s];rw[Wy A q]at eA;simp only[Option.map_some]at eA
   (revert K;revert K;refine fb eG h ?_;intro K hK K hK K hK)
   (refine LF 11 za zo ?_;simp only[List.drop_succ_cons,List.drop_zero,List.take_succ_cons,List.take_zero])
   repeat' (first|(with_reducible first|refine bA.up ?_|refineλ(K:AK)hK=>?_|refine au zs ?_|(refine hK _ ?_;clear hK K))|simp only[go_sem,eR,eA,eY,eW,Go.undef]|with_reducible refine wA ?_|clear hK K|(with_reducible refine ah.one zf ?_)|(with_reducible refine bQ.one zf ?_)|(refine cn.part (λu=>?_) (λu=>?_)<;>simp only[u,go_sem,eR,eA,eY,eW,Go.undef])|(refine cn.part (λu=>?_) (λu=>?_))|(with_reducible refine oV.mk ?_ ?_))
   ·exact aw.mk (i+1) zd zd (by exact ab ar ar ar)
   ·exact .inr trivial
  ·have U:rows[s].drop i=[]:=List.drop_eq_nil_of_le (by replace h:=cq h;omega);simp only[U,dD,List.map_nil]
   (revert K;revert K;refine ag ?_)
   exact .inl trivial
theorem K1(rows:N3)(ends:N2)(s:Nat):aj prog 125 [.vp (gV rows ends),.v (.int .i64 (s:Nat))] (.fn 157 [] [.vp [.vp (gV rows ends)],.vp [.v (.int .i64 (s:Nat))]]):=by
 simp only[gV]at *;refine gE func125 ntmps125 results125 ?_
 repeat' (first|(with_reducible first|refine bA.up ?_|refineλ(K:AK)hK=>?_|(refine hK _ ?_;clear hK K))|simp only[go_sem]|clear hK K|(with_reducible refine ah.one zf ?_)|(with_reducible refine bQ.one zf ?_)|(refine cn.part (λq=>?_) (λq=>?_)<;>simp only[q,go_sem])|(refine cn.part (λq=>?_) (λq=>?_))|(with_reducible refine oV.mk ?_ ?_))
 (refine iE.of 40 rfl ?_;simp only[go_sem])
theorem Wh{a b x y:List UInt8}(h:a++32::x=b++32::y)(u:32∉a)(q:32∉b):a=b∧x=y:=by
 induction a generalizing b with
 |nil=>
  cases b with
  |nil=>simpa using h
  |cons c b=>grind
 |cons d a ih=>
  cases b with
  |nil=>grind
  |cons c b=>
   grind
section
variable (rows:N3) (ends:N2)
def MJ(r:bD):Prop:=∀p∈r,32∉p.1.data.toList
def zh(part:Do)(r:bD):Do:=r.map (λe=>part.getD e.2 0)
theorem Gx{part:Do}:∀{r s:bD},MJ r->MJ s->r.flatMap (λe=>32::(e.1.data.toList++32::Lib.decDigits (part.getD e.2 0)))=s.flatMap (λe=>32::(e.1.data.toList++32::Lib.decDigits (part.getD e.2 0)))->r.map Prod.fst=s.map Prod.fst∧zh part r=zh part s
 | [],[],_,_,_=>⟨rfl,rfl⟩
 | [],b::s,_,_,h=>by simp at h
 |a::r,[],_,_,h=>by simp at h
 |a::r,b::s,H,A,h=>by
  simp only[List.flatMap_cons,afz,List.append_assoc,agk,true_and]at h;obtain⟨k1,U⟩:=Wh h (H a List.mem_cons_self) (A b List.mem_cons_self)
  have u:∀t:bD,(t.flatMap (λe=>32::(e.1.data.toList++32::Lib.decDigits (part.getD e.2 0))))=[]∨(t.flatMap (λe=>32::(e.1.data.toList++32::Lib.decDigits (part.getD e.2 0)))).head? = some 32:=λt=>by
   cases t with
   |nil=>grind
   |cons a t=>grind
  obtain⟨Y,O⟩:=sT U (u r) (u s);obtain⟨W,V⟩:=Gx (λp q=>H p (aeX _ q)) (λp q=>A p (aeX _ q)) O
  have:a.1=b.1:=by
   cases ha:a.1 with|mk x=>simp_all
  grind[zh]
theorem Bg{part:Do}{p q:Nat}{r s:bD}(U:MJ r)(O:MJ s)(h:du part p r=du part q s):p=q∧r.map Prod.fst=s.map Prod.fst∧zh part r=zh part s:=by
 have e:y4 part p r=y4 part q s:=by
  grind[du,part]
 have u:∀t:bD,(t.flatMap (λe=>32::(e.1.data.toList++32::Lib.decDigits (part.getD e.2 0))))=[]∨(t.flatMap (λe=>32::(e.1.data.toList++32::Lib.decDigits (part.getD e.2 0)))).head? = some 32:=λt=>by
  cases t with
  |nil=>grind
  |cons a t=>grind
 obtain⟨H,A⟩:=sT e (u r) (u s)
 grind[Gx]
structure Stb(part:Do):Prop where
 ends:∀s t,s<rows.length->t<rows.length->part.getD s 0=part.getD t 0->ends.getD s false=ends.getD t false
 row:∀s t,s<rows.length->t<rows.length->part.getD s 0=part.getD t 0->(rows.getD s []).map Prod.fst=(rows.getD t []).map Prod.fst∧zh part (rows.getD s [])=zh part (rows.getD t [])
def tC:Prop:=∀r∈rows,MJ r
theorem xe(h:tC rows)(s:Nat):MJ (rows.getD s []):=by
 rcases aei s rows.length with q|q
 ·exact h _ (bK q)
 ·rw[aeS,List.getElem?_eq_none q];exactλp u=>by simp at u
theorem Bi{part:Do}{s t:Nat}(W:s<rows.length)(V:t<rows.length):(gC rows part).getD s 0=(gC rows part).getD t 0↔du part (part.getD s 0) (rows.getD s [])=du part (part.getD t 0) (rows.getD t []):=by
 have ok:=jl rows part rows.length;obtain⟨H,U⟩:=ok.at' s W;obtain⟨A,O⟩:=ok.at' t V
 constructor
 ·intro e;have Y:(fA rows part rows.length).2.getD s 0=(fA rows part rows.length).2.getD t 0:=e
  grind
 ·intro e;rw[<-U, <- O]at e
  exact agC λu=>by
   rcases aei ((fA rows part rows.length).2.getD s 0) ((fA rows part rows.length).2.getD t 0)with h|h
   ·exact agu.1 ok.nd _ _ H A h e
   ·exact agu.1 ok.nd _ _ A H (Nat.lt_of_le_of_ne h (λq=>u q.symm)) e.symm
theorem r9{part:Do}{s t:Nat}(u:s<rows.length)(q:t<rows.length)(h:(gC rows part).getD s 0=(gC rows part).getD t 0):part.getD s 0=part.getD t 0:=
 y5 ((Bi rows u q).1 h)
theorem lQ{part:Do}{s:Nat}(q:s<rows.length):(gC rows part).getD s 0<gT rows part:=((jl rows part rows.length).at' s q).1
theorem I4{part:Do}{many:Nat}(h:XF rows part many)(A:∀s,s<rows.length->part.getD s 0<many)(he:gT rows part=many){s t:Nat}(hs:s<rows.length)(ht:t<rows.length)(hp:part.getD s 0=part.getD t 0):(gC rows part).getD s 0=(gC rows part).getD t 0:=by
 refine agC λhne=>?_
 have O:∀k,∃m,k<many->∃u,u<rows.length∧part.getD u 0=k∧(gC rows part).getD u 0=m:=λk=>by
  by_cases H:k<many
  ·obtain⟨u,h1,h2⟩:=h.2 k H;exact⟨_,λ_=>⟨u,h1,h2,rfl⟩⟩
  ·exact⟨0,λq=>absurd q H⟩
 obtain⟨f,hf⟩:=Classical.axiomOfChoice O
 have fin:∀a b,a<many->b<many->f a=f b->a=b:=λa b U hb e=>by
  grind[r9]
 have H:=A s hs

 obtain⟨z,hz,Y⟩:∃z,z<rows.length∧part.getD z 0=part.getD s 0∧(gC rows part).getD z 0≠f (part.getD s 0):=by
  grind
 have:=Pw (many+1) (gT rows part) (λa=>if a<many then f a else(gC rows part).getD z 0) (λa U=>by
  split
  ·rename_i q;obtain⟨u,W,_,V⟩:=hf a q;rw[<-V];exact lQ rows W
  ·exact lQ rows hz) (λa b U hb e=>by
  grind[r9])
 omega
def Vi(part:Do):Prop:=∀s t,s<rows.length->t<rows.length->part.getD s 0=part.getD t 0->ends.getD s false=ends.getD t false
theorem FX(hn:tC rows)(hT:∀r∈rows,∀p∈r,p.2<rows.length)(U:0<rows.length):∀(f:Nat){part:Do}{many:Nat},Vi rows ends part->XF rows part many->many<=rows.length->(many≠0->∀s,s<rows.length->part.getD s 0<many)->rows.length+1<=f+many ->
  Stb rows ends (qS rows f part many)∧(qS rows f part many).length=rows.length
 |0,part,many,_,_,_,_,hf=>zd
 |f+1,part,many,he,W,hm,Y,hf=>by
  have O:Vi rows ends (gC rows part):=λs t q u h=>he s t q u (r9 rows q u h);have H:0<gT rows part:=Nat.lt_of_le_of_lt (Nat.zero_le _) (lQ rows (part:=part) U);rw[qS]
  split
  ·rename_i hq;refine⟨⟨O,λs t q u h=>?_⟩,(pX rows part).1⟩;obtain⟨_,A,V⟩:=Bg (xe rows hn s) (xe rows hn t) ((Bi rows q u).1 h);refine⟨A,?_⟩

   have hlen:(rows.getD s []).length=(rows.getD t []).length:=by simpa using congrArg List.length A
   refine agf (by grind[zh,agv]) λi h1 h2=>?_
   have e:(zh part (rows.getD s []))[i]?=(zh part (rows.getD t []))[i]? :=by rw[V]
   grind[zh,agv,aes,aep,I4,bK,afm]
  ·rename_i hq
   have:=oC rows W
   exact FX hn hT U f O (pX rows part) (pW rows part) (λ_ s q=>lQ rows q) zd
theorem y9(hn:tC rows)(q:∀r∈rows,∀p∈r,p.2<rows.length)(u:0<rows.length)(hl:ends.length=rows.length):Stb rows ends (b9 rows ends)∧(b9 rows ends).length=rows.length:=by
 refine FX rows ends hn q u (rows.length+2) (λs t H A h=>?_) ⟨by simp[p0,hl],λk h=>zd⟩ (Nat.zero_le _) (λh=>absurd rfl h) zd
 grind[p0,aes]
variable {rows ends}
theorem yM{part:Do}:∀{r s:bD},r.map Prod.fst=s.map Prod.fst->zh part r=zh part s->∀l,(look r l=none↔look s l=none)∧∀a b,look r l=some a->look s l=some b->part.getD a 0=part.getD b 0
 | [],[],_,_,l=>⟨Iff.rfl,λa b h=>by grind⟩
 | [],b::s,h,_,l=>by simp at h
 |a::r,[],h,_,l=>by simp at h
 |a::r,b::s,u,H,l=>by
  rw[afZ,afZ,agk]at u;rw[zh,zh,afZ,afZ,agk]at H;obtain⟨U,O⟩:=yM u.2 H.2 l
  cases q:fR l a.1
  ·have A:fR l b.1=false:=by rw[<-u.1];exact q
   simp only[look,List.find?_cons,q,A]at U O⊢;exact⟨U,O⟩
  ·have A:fR l b.1=true:=by rw[<-u.1];exact q
   simp only[look,List.find?_cons,q,A,Option.map_some];exact⟨zk,λx y W V=>by cases W;cases V;exact H.1⟩
theorem Dl(u:∀r∈rows,∀p∈r,p.2<rows.length){s:Nat}(q:s<rows.length){l:ByteArray}{t:Nat}(h:look (rows.getD s []) l=some t):t<rows.length:=u _ (bK q) _ (lL h)
theorem BI(O:∀r∈rows,∀p∈r,p.2<rows.length){part:Do}(h:Stb rows ends part):∀(w:B0){s t:Nat},s<rows.length->t<rows.length->part.getD s 0=part.getD t 0->dQ rows ends s w=dQ rows ends t w
 | [],s,t,A,u,e=>h.ends s t A u e
 |l::w,s,t,A,u,e=>by
  obtain⟨Y,W⟩:=h.row s t A u e;obtain⟨U,V⟩:=yM Y W l;rw[dQ,dQ,yt,yt]
  cases q:look (rows.getD s []) l with
  |none=>rw[U.1 q]
  |some a=>
   cases H:look (rows.getD t []) l with
   |none=>rw[U.2 H]at q;cases q
   |some b=>exact BI O h w (Dl O A q) (Dl O u H) (V a b q H)
def N7(part order:Do)(r r':bD):Prop:=∀l,(look r l=none->look r' l=none)∧∀t,look r l=some t->∃k,look r' l=some k∧k<order.length∧part.getD (order.getD k 0) 0=part.getD t 0
theorem N7.mono{part order t:Do}{r q:bD}(h:N7 part order r q):N7 part (order++t) r q:=λl=>
 ⟨(h l).1,λa u=>by
  obtain⟨k,O,H,A⟩:=(h l).2 a u
  grind⟩
theorem QL(part:Do)(order:Do):∀r:bD,(r.map Prod.fst).Nodup->N7 part (fX part order r).1 r (fX part order r).2:=by
 refine ij (λ_ l=>⟨λ_=>by simp[fX,look],λt h=>by grind[look]⟩) ?_;intro r e ih hn l;rw[List.map_append]at hn;have u:=List.nodup_append.1 hn;have ih:=ih u.1;have A:look r e.1=none:=lx.2 λq=>u.2.2 e.1 q e.1 zk rfl
 have key:∀(o':Do)(k:Nat),(∃t,o'=(fX part order r).1++t)->k<o'.length->part.getD (o'.getD k 0) 0=part.getD e.2 0->(look (r++[e]) l=none->look ((fX part order r).2++[(e.1,k)]) l=none)∧∀t,look (r++[e]) l=some t->∃j,look ((fX part order r).2++[(e.1,k)]) l=some j∧j<o'.length∧part.getD (o'.getD j 0) 0=part.getD t 0:=by
  rintro _ k ⟨t2,rfl⟩ hk hp;have U:r++[e]=r++[(e.1,e.2)]:=rfl;rw[U,kf,kf,kg,kg]
  by_cases hl:l=e.1
  ·subst hl;rw[A,(ih _).1 A,if_pos rfl,if_pos rfl]
   grind
  ·rw[if_neg hl,if_neg hl]
   refine⟨λh=>?_,λt h=>?_⟩
   ·cases q:look r l with
    |none=>rw[(ih l).1 q];rfl
    |some t=>grind
   ·cases q:look r l with
    |none=>grind
    |some H=>
     rw[q]at h;simp only[Option.some_or,aep]at h;subst h;obtain⟨j,j1,j2,Y⟩:=(ih l).2 H q
     grind
 rw[nc,KM]
 split
 ·rename_i n hq;obtain⟨O,W⟩:=Bv part hq
  have V:(fX part order r).1.getD n 0=(fX part order r).1[n]:=by grind
  exact key _ n ⟨[],zk⟩ O (by grind)
 ·exact key _ _ ⟨_,rfl⟩ zk (by grind)
structure QW(rows:N3)(ends:N2)(part:Do)(st:B7):Prop where
 zero:st.order.getD 0 0=0
 row:∀k,k<st.rows.length->N7 part st.order (rows.getD (st.order.getD k 0) []) (st.rows.getD k [])
 Ii:∀k,k<st.rows.length->st.ends.getD k false=ends.getD (st.order.getD k 0) false
theorem UB(Y:∀r∈rows,∀p∈r,p.2<rows.length)(hN:∀r∈rows,(r.map Prod.fst).Nodup){part:Do}{st:B7}(u:Lk rows part st)(h:QW rows ends part st)(h1:st.rows.length<st.order.length):QW rows ends part (gj rows ends part st):=by
 have U:fC st<rows.length:=u.lt _ (bK h1);obtain⟨_,_,_,k4,_,t,V⟩:=xl part (n:=rows.length) u.nd u.lt (rows.getD (fC st) []) (Y _ (bK U));have W:=QL part st.order (rows.getD (fC st) []) (hN _ (bK U))
 have H:∀k,k<st.order.length->(gj rows ends part st).order.getD k 0=st.order.getD k 0:=λk O=>by grind[gj,dX]
 refine⟨by rw[H 0 zd];exact h.zero,λk O=>?_,λk O=>?_⟩
 ·have A:k<st.rows.length+1:=by grind[gj]
  rw[H k zd]
  rcases aei k st.rows.length with q|q
  ·simp only[gj,V,kS q];exact(h.row k q).mono
  ·obtain rfl:k=st.rows.length:=zd
   simp only[gj,je];exact W
 ·have A:k<st.rows.length+1:=by grind[gj]
  rw[H k zd]
  rcases aei k st.rows.length with q|q
  ·simp only[gj];rw[kS (by rw[u.ends];exact q)];exact h.Ii k q
  ·obtain rfl:k=st.rows.length:=zd
   simp only[gj];rw[<-u.ends,je,u.ends];rfl
theorem QM(q:∀r∈rows,∀p∈r,p.2<rows.length)(A:∀r∈rows,(r.map Prod.fst).Nodup){part:Do}:∀(f:Nat){st:B7},Lk rows part st->QW rows ends part st->QW rows ends part (pj rows ends part f st)
 |0,st,_,h=>h
 |f+1,st,u,h=>by
  rw[pj]
  split
  ·rename_i H;exact QM q A f (tP rows ends part q u H) (UB q A u h H)
  ·exact h
theorem FG(q:∀r∈rows,∀p∈r,p.2<rows.length)(H:∀r∈rows,(r.map Prod.fst).Nodup)(u:0<rows.length)(part:Do) :
  Lk rows part (da rows ends part)∧(da rows ends part).rows.length=(da rows ends part).order.length∧QW rows ends part (da rows ends part):=by
 have h:=KP rows ends part q (rows.length+1) (KL rows part u) (by simp[q0]);exact⟨h.1,h.2,QM q H _ (KL rows part u) ⟨rfl,λk A=>by grind[q0],λk A=>by grind[q0]⟩⟩
theorem F6{part:Do}:∀(f:Nat){st:B7},st.order.length<=(pj rows ends part f st).order.length
 |0,st=>Nat.le_refl _
 |f+1,st=>by
  rw[pj]
  split
  ·have q:∀(o:Do)(r:bD),o.length<=(fX part o r).1.length:=λo=>by
    refine ij (by simp[fX]) ?_
    grind[nc,KM,List.length_append]
   exact Nat.le_trans (q _ _) (F6 f (st:=gj rows ends part st))
  omega
theorem vZ(A:∀r∈rows,∀p∈r,p.2<rows.length){part:Do}(V:Stb rows ends part){st:B7}(u:Lk rows part st)(hl:st.rows.length=st.order.length)(h:QW rows ends part st):∀(w:B0){k:Nat},k<st.order.length->dQ st.rows st.ends k w=dQ rows ends (st.order.getD k 0) w
 | [],k,U=>h.Ii k zd
 |l::w,k,U=>by
  have O:=h.row k zd l;have hs:st.order.getD k 0<rows.length:=u.lt _ (bK U);rw[dQ,dQ,yt,yt]
  cases q:look (rows.getD (st.order.getD k 0) []) l with
  |none=>rw[O.1 q]
  |some t=>
   obtain⟨j,Y,H,W⟩:=O.2 t q;rw[Y]
   have:=vZ A V u hl h w H
   rw[dQ,dQ]at this;simp only;rw[this];exact BI A V w (u.lt _ (bK H)) (Dl A hs q) W
end
theorem Tr{l:Do}{k:Nat}{x:C5}(h:(aT l)[k]?=some x):∃A:k<l.length,x=[.v (.int .i64 (l[k]:Nat))]:=by
 obtain⟨q,u⟩:=List.getElem?_eq_some_iff.1 h;simp only[aT,List.length_map]at q;exact⟨q,by rw[<-u];simp[aT]⟩
theorem kP{n0:Nat}{Q:bg->AS->Prop}{t:C5}{o:AC}{y:kB}{g:Operand}{ps:Array Tmp}{assign body:Code}(m:BitVec 32)(id:Nat)(V:o[id]?=some (some (rG m)))(mm:Nat)(O:Nat->AC)(ok:Nat->Prop)(h0:ok 0)
  (W:(AS.mk t o y).ev g=.fn 213 [] [.ptr id 0 1 0 0])(hdead:(O 0)[id]?=some none)(A:Wk n0 ⟨t,o,y⟩ ⟨cO mm t,O 0,y⟩)(hA:bY assign=true)(Y:bY body=true)(H:ps.size=1)
  (hround:∀k(q:k<(az m).length),ok k->cD prog (O 0).length assign ⟨iz ps.toList [.v (.int .i64 ((az m)[k]:Nat))] (cO mm t),O k,y⟩ (nA prog (O 0).length body (oY (O 0).length (cO mm t) (ok (k+1)) (O (k+1)) y Q)))
  (u:ok (az m).length->Q .normal ⟨cO mm t,O (az m).length,y⟩):cD prog n0 (.rangeFunc g ps assign body) ⟨t,o,y⟩ Q:=by
 have hl:(aT (az m)).length=(az m).length:=by simp[aT]
 refine xP (SH m) [id] zk ?_ ?_ O (λ_=>y) ok h0 (cO mm t) ?_ (by rfl) ?_ A hA Y ?_ ?_ (by rw[hl];exact u)
 ·simp only[afZ,agt,V,Option.map_some];rfl
 ·intro k ob q
  match k,q with
  |0,q=>cases q;rfl
  |k+1,q=>simp at q
 ·rw[W];rfl
 ·intro i hi ob
  obtain rfl:i=id:=by simpa using hi
  rw[hdead];intro h;cases h
 ·intro x hx;obtain⟨p,_,rfl⟩:=List.mem_map.1 hx;exact H.symm
 ·intro k x q hx;obtain⟨U,rfl⟩:=Tr hx;exact hround k U q
def ofM(p:Int):BitVec 32:=if 0<=p∧p<=24 then 1#32 <<< p.toNat else 0#32
theorem tE{p:Int}{i:Nat}:(ofM p).getLsbD i=decide (0<=p∧p<=24∧i=p):=by
 rw[ofM]
 split
 ·rename_i h;rw[BitVec.getLsbD_shiftLeft,BitVec.getLsbD_one,Bool.eq_iff_iff];simp;omega
 ·rename_i h;rw[BitVec.getLsbD_zero,eq_comm,decide_eq_false_iff_not];omega
theorem WI(p:Int):aj prog 145 [.v (.int .i64 p)] (aY (ofM p)):=by
 have U:0<=p∧p<=24->IntKind.u32.wrap (1*2 ^ min p.toNat 32)=((ofM p).toNat:Nat):=λh=>by
  have e:min p.toNat 32=p.toNat:=zd
  rw[ofM,if_pos h,e,Ua]
 have O: ¬(0<=p∧p<=24)->ofM p=0#32:=λh=>by rw[ofM,if_neg h]
 simp only[aY]
 rcases Int.lt_or_le p 0 with q|q
 ·have u:decide (p<0)=true:=decide_eq_true q;rw[O zd];refine gE func145 ntmps145 results145 ?_;refine dj u ?_
  rfl
 ·have u:decide (p<0)=false:=bi
  rcases Int.lt_or_le 24 p with A|A
  ·have H:decide (24<p)=true:=decide_eq_true A;rw[O zd];refine gE func145 ntmps145 results145 ?_;refine dj (q9 u H) ?_
   rfl
  ·have H:decide (24<p)=false:=bi;have e:=U ⟨q,A⟩;have e0:(0<=p)=True:=eq_true q;refine gE func145 ntmps145 results145 ?_
   repeat(first|(with_reducible first|refine bA.up ?_|refineλ(K:AK)hK=>?_|(refine hK _ ?_;clear hK K))|simp only[go_sem,u,H,e,e0,Go.undef]|with_reducible refine wA ?_|clear hK K)
theorem P6(m:BitVec 32):aj prog 149 [aY m] (.aA 1 (aT (az m)) (az m).length):=by
 have A:=ue m;have H:=LN m;simp only[rG,aY]at *;refine gE func149 ntmps149 results149 ?_
 (refine ag ?_;intro K hK K hK K hK)
 refine ah.fr [] A zk ?_ ?_ ?_ ?_ ?_
 ·rfl
 ·rfl
 ·rfl
 ·intro k ob q;simp at q
 ((iterate 3 revert K);refine ag ?_;intro K hK)
 refine uB (dS (k:=0) (i:=0) (j:=0) 3 1 zs rfl zs rfl rfl) zo ?_;simp only[List.length_cons,List.length_nil,Nat.reduceAdd,afz,afy,List.set_cons_zero]
 refine kP m 1 rfl 3 (λk=>[some ⟨56,1,false,[[.vec 2 k]]⟩,none,some ⟨3,1,true,aT ((az m).take k)⟩]) (λ_=>True) trivial ?_ rfl ?_ zo zo rfl ?_ ?_
 ·rfl
 ·refine ab ar (bF ?_) ar
  rfl
 ·intro k q _
  have eS:aT ((az m).take (k+1))=aT ((az m).take k)++[[.v (.int .i64 ((az m)[k]:Nat))]]:=by rw[agD q,aT,List.map_append];rfl
  have eL:(aT ((az m).take k)).length=k:=by simp[aT];omega
  (revert K;refine ag ?_)
  rw[eS];exact ab ar ar ar
 ·intro _;have u:(az m).take (az m).length=az m:=agE
  have eL:(aT (az m)).length=(az m).length:=by simp[aT]
  (revert K;refine ak u ?_)
  rw[<-eL]
  (refine iE.of 40 rfl ?_;simp only[go_sem])
  trace_state
structure cF where
 labs:B0
 fs:List (BitVec 32)
 la:BitVec 32
 em:Bool
def cF.row(i:Nat)(s:cF):C5:= .vec i s.labs.length::(s.fs.map aY++[aY s.la,.v (.bool s.em)])
def cF.os(s:cF):AC:=[some ⟨188,28,false,[s.row 1]⟩,some ⟨9,1,true,s.labs.map encS⟩]
def MC(b:BitVec 32)(fs:List (BitVec 32))(p:Nat):List (BitVec 32):=fs.set p (fs.getD p 0#32 ||| b)
def pd(b:BitVec 32)(l:Do)(fs:List (BitVec 32)):List (BitVec 32):=l.foldl (MC b) fs
theorem tq(b:BitVec 32):∀(l:Do)(fs:List (BitVec 32)),(pd b l fs).length=fs.length
 | [],fs=>rfl
 |p::l,fs=>by rw[pd,afD, <- pd,tq b l,MC,List.length_set]
theorem MD(b:BitVec 32)(l:Do)(p:Nat)(fs:List (BitVec 32)):pd b (l++[p]) fs=MC b (pd b l fs) p:=by
 rw[pd,List.foldl_append];rfl
theorem Kk{fs:List (BitVec 32)}{l:AV}{X:C5}{p:Nat}(h:p<fs.length):∃r,(l::(fs.map aY++X)).drop (1+p*1)=aY (fs.getD p 0#32)::r:=by
 refine⟨(fs.map aY++X).drop (p+1),?_⟩;rw[Nat.mul_one,Nat.add_comm,List.drop_succ_cons,afW ahn,List.getElem_append_left (by simpa using h),List.getElem_map];simp[List.getD,h]
theorem Wp{fs:List (BitVec 32)}{l:AV}{X:C5}{p:Nat}(x:BitVec 32)(h:p<fs.length):(l::(fs.map aY++X)).take (1+p*1)++aY x::(fs.map aY++X).drop (1+p*1)=l::((fs.set p x).map aY++X):=by
 rw[Nat.mul_one,Nat.add_comm,List.take_succ_cons,afz,List.map_set, <- List.set_append_left p (aY x) (by simpa using h),List.set_eq_take_append_cons_drop,if_pos ahn]
theorem Jz(n:Nat)(fs:List (BitVec 32))(x y:Value):aQ n (fs.map aY++[.v x,.v y])=true:=by
 induction fs with
 |nil=>rfl
 |cons z l ih=>simp only[afZ,afz,aQ,aY,AV.wf,afi];exact ih
theorem DD(f:Nat->Nat)(fs:List (BitVec 32))(x y:Value):bW f (fs.map aY++[.v x,.v y])=fs.map aY++[.v x,.v y]:=by
 induction fs with
 |nil=>rfl
 |cons z l ih=>simp only[afZ,afz,bW,ih];rfl
attribute [go_sem] Jz DD
theorem P0(s:cF)(a b:BitVec 32)(hl:s.fs.length=25)(u:∀p,p∈az a->p<25) :
  bT prog 147 [.ptr 0 0 28 0 0,aY a,aY b] s.os (.ck []) (cF.os {s with fs:=pd b (az a) s.fs}):=by
 have A:=ue a;obtain⟨labs,fs,la,em⟩:=s;simp only[cF.os,cF.row,rG]at *;simp only[aY]at A;simp only[aY];refine gF func147 ntmps147 results147 ?_
 (refine bc ?_;intro K hK K hK)
 refine ah.fr [] A zk ?_ ?_ ?_ ?_ ?_
 ·rfl
 ·rfl
 ·rfl
 ·intro k ob q;simp at q
 (revert K;revert K;refine bc ?_)
 refine kP a 4 (by simp only[rG,aY];rfl) 6 (λk=>[some ⟨188,28,false,[.vec 1 labs.length::((pd b ((az a).take k) fs).map aY++[.v (.int .u32 la.toNat),.v (.bool em)])]⟩,some ⟨9,1,true,labs.map encS⟩,some ⟨149,1,false,[[.ptr 0 0 28 0 0]]⟩,some ⟨185,1,false,[[.v (.int .u32 b.toNat)]]⟩,none]) (λ_=>True) trivial ?_ rfl ?_ zo zo rfl ?_ ?_
 ·rfl
 ·refine ab ar (bF ?_) ar
  rfl
 ·intro k q _;have O:=u _ (afm q);rw[agD q,MD,MC]
  have U:(pd b ((az a).take k) fs).length=25:=by rw[tq];exact hl
  generalize pd b ((az a).take k) fs=F at *;generalize(az a)[k]=p at *;obtain⟨r,eD⟩:=Kk (l:= .vec 1 labs.length) (X:=[.v (.int .u32 la.toNat),.v (.bool em)]) (fs:=F) (p:=p) zd;have eS:=Wp (l:= .vec 1 labs.length) (X:=[.v (.int .u32 la.toNat),.v (.bool em)]) (fs:=F) (p:=p) (F.getD p 0#32 ||| b) zd;have eT:(p:Int).toNat=p:=Int.toNat_natCast p
  have eB:0<=(p:Int)∧(p:Int)<25:=zd
  simp only[aY]at eD eS;refine aG (q9 eD @ov) ?_;rw[eS];exact ab ar ar ar
 ·intro _;have H:(az a).take (az a).length=az a:=agE;refine aG H ?_;exact⟨ej,ej,ej⟩
structure Sb where
 st:cF
 op:Bool
 ends:BitVec 32
 first:BitVec 32
def dB(x:Ex)(b:cF×BitVec 32×BitVec 32)(r:Sb):Sb:=
 ⟨{b.1 with fs:=pd b.2.1 (az r.ends) b.1.fs},if aS x then r.op else false,(if aS x then r.ends else 0#32) ||| b.2.2,if r.op then r.first ||| b.2.1 else r.first⟩
mutual
def sG:Ex->cF->cF×BitVec 32×BitVec 32
 | .mk k s l,st=>
  if k=1 then({st with labs:=st.labs++[s]},ofM ((st.labs.length+1:Nat):Int),ofM ((st.labs.length+1:Nat):Int))
  else if k=2 then((jy l ⟨st,true,0#32,0#32⟩).st,(jy l ⟨st,true,0#32,0#32⟩).first,(jy l ⟨st,true,0#32,0#32⟩).ends)
  else if k=4∨k=5 then({(ix l (st,0#32,0#32)).1 with fs:=pd (ix l (st,0#32,0#32)).2.1 (az (ix l (st,0#32,0#32)).2.2) (ix l (st,0#32,0#32)).1.fs},(ix l (st,0#32,0#32)).2.1,(ix l (st,0#32,0#32)).2.2)
  else ix l (st,0#32,0#32)
def jy:IO->Sb->Sb
 | [],r=>r
 |x::xs,r=>jy xs (dB x (sG x r.st) r)
def ix:IO->cF×BitVec 32×BitVec 32->cF×BitVec 32×BitVec 32
 | [],r=>r
 |x::xs,r=>ix xs ((sG x r.1).1,r.2.1 ||| (sG x r.1).2.1,r.2.2 ||| (sG x r.1).2.2)
end
theorem EF:∀(l m:IO)(r:Sb),jy (l++m) r=jy m (jy l r)
 | [],m,r=>by simp[jy]
 |x::l,m,r=>by simp only[afz,jy];exact EF l m _
theorem EE:∀(l m:IO)(r:cF×BitVec 32×BitVec 32),ix (l++m) r=ix m (ix l r)
 | [],m,r=>by simp[ix]
 |x::l,m,r=>by simp only[afz,ix];exact EE l m _
theorem uQ{fs:List (BitVec 32)}{p q:Nat}{x:BitVec 32}(h:p<fs.length):(fs.set p x).getD q 0#32=if q=p then x else fs.getD q 0#32:=by
 grind
theorem yL{b:BitVec 32}:∀{l:Do}{fs:List (BitVec 32)}{p q:Nat},(∀j∈l,j<fs.length)->(((pd b l fs).getD p 0#32).getLsbD q=true↔(fs.getD p 0#32).getLsbD q=true∨(p∈l∧b.getLsbD q=true))
 | [],fs,p,q,_=>by simp[pd]
 |j::l,fs,p,q,hl=>by
  have u:j<fs.length:=hl j zk;rw[pd,afD, <- pd,yL (λk A=>by grind[MC,List.length_set]),MC,uQ u,List.mem_cons]
  grind
structure VZ(x:Ex)(st:cF)(r:cF×BitVec 32×BitVec 32):Prop where
 labs:r.1.labs=st.labs++aI x
 len:r.1.fs.length=25
 la:r.1.la=st.la
 em:r.1.em=st.em
 fst:∀p,r.2.1.getLsbD p=true↔mz x st.labs.length p
 Bd:∀p,r.2.2.getLsbD p=true↔ln x st.labs.length p
 vU:∀p q,(r.1.fs.getD p 0#32).getLsbD q=true↔(st.fs.getD p 0#32).getLsbD q=true∨kO x st.labs.length p q
structure abV(l:IO)(r R:Sb):Prop where
 labs:R.st.labs=r.st.labs++aV l
 len:R.st.fs.length=25
 la:R.st.la=r.st.la
 em:R.st.em=r.st.em
 op:R.op=(r.op&&dz l)
 fst:∀p,R.first.getLsbD p=true↔r.first.getLsbD p=true∨(r.op=true∧jx l r.st.labs.length p)
 Bd:∀p,R.ends.getLsbD p=true↔(dz l=true∧r.ends.getLsbD p=true)∨lD l r.st.labs.length p
 vU:∀p q,(R.st.fs.getD p 0#32).getLsbD q=true↔(r.st.fs.getD p 0#32).getLsbD q=true∨jw l r.st.labs.length p q∨(r.ends.getLsbD p=true∧jx l r.st.labs.length q)
structure abR(l:IO)(r R:cF×BitVec 32×BitVec 32):Prop where
 labs:R.1.labs=r.1.labs++aV l
 len:R.1.fs.length=25
 la:R.1.la=r.1.la
 em:R.1.em=r.1.em
 fst:∀p,R.2.1.getLsbD p=true↔r.2.1.getLsbD p=true∨iW l r.1.labs.length p
 Bd:∀p,R.2.2.getLsbD p=true↔r.2.2.getLsbD p=true∨iX l r.1.labs.length p
 vU:∀p q,(R.1.fs.getD p 0#32).getLsbD q=true↔(r.1.fs.getD p 0#32).getLsbD q=true∨jU l r.1.labs.length p q
theorem xT:∀(l:IO)(r:Sb),(∀x∈l,∀st,st.fs.length=25->st.labs.length+(aI x).length<=24->VZ x st (sG x st))->r.st.fs.length=25->(∀p∈az r.ends,p<25)->r.st.labs.length+(aV l).length<=24->abV l r (jy l r)
 | [],r,_,H,O,W=>by
  rw[jy];exact⟨by simp[aV],H,rfl,rfl,by simp[dz],λp=>by simp[jx],λp=>by simp[lD,dz],λp q=>by simp[jw,jx]⟩
 |x::xs,r,V,H,O,W=>by
  rw[aV,aem]at W;have B:=V x zk r.st H zd;generalize U:sG x r.st=b at B
  have hlen:(r.st.labs++aI x).length=r.st.labs.length+(aI x).length:=zk
  have hends:∀p∈az ((dB x b r).ends),p<25:=λp hp=>by
   have:=bq.1 hp
   simp only[dB]at this;rw[agF,afa,B.Bd]at this
   rcases this with h|h
   ·split at h
    ·exact O p (bq.2 h)
    ·simp at h
   ·have:=iF x h;omega
  have S:=xT xs (dB x b r) (λy hy=>V y (by simp[hy])) (by simp only[dB,tq];exact B.len) hends (by simp only[dB,B.labs,hlen];omega)
  have A:∀p q,((dB x b r).st.fs.getD p 0#32).getLsbD q=true↔((r.st.fs.getD p 0#32).getLsbD q=true∨kO x r.st.labs.length p q)∨(r.ends.getLsbD p=true∧mz x r.st.labs.length q):=λp q=>by
   show((pd _ _ _).getD p 0#32).getLsbD q=true↔_;rw[yL (λj hj=>by rw[B.len];exact O j hj),B.vU,B.fst,bq]
  have u:(dB x b r).st.labs.length=r.st.labs.length+(aI x).length:=by simp only[dB,B.labs,hlen]
  have hE:∀p,(dB x b r).ends.getLsbD p=true↔(aS x=true∧r.ends.getLsbD p=true)∨ln x r.st.labs.length p:=λp=>by
   simp only[dB];rw[agF,afa,B.Bd]
   grind
  have hF:∀p,(dB x b r).first.getLsbD p=true↔r.first.getLsbD p=true∨(r.op=true∧mz x r.st.labs.length p):=λp=>by
   simp only[dB]
   cases r.op
   ·simp
   ·simp only[if_true,agF,afa,B.fst,true_and]
  have Y:(dB x b r).op=(r.op&&aS x):=by grind[dB,aS]
  rw[jy,U]
  refine⟨?_,S.len,?_,?_,?_,λp=>?_,λp=>?_,λp q=>?_⟩
  ·rw[S.labs];simp only[dB];rw[B.labs,aV,agx]
  ·rw[S.la];exact B.la
  ·rw[S.em];exact B.em
  ·rw[S.op,Y,dz,Bool.and_assoc]
  ·rw[S.fst,hF,Y,u,jx];grind
  ·rw[S.Bd,hE,u,lD,dz];grind
  ·rw[S.vU,A,hE,u,jx,jw];grind
theorem xS:∀(l:IO)(r:cF×BitVec 32×BitVec 32),(∀x∈l,∀st,st.fs.length=25->st.labs.length+(aI x).length<=24->VZ x st (sG x st))->r.1.fs.length=25->r.1.labs.length+(aV l).length<=24->abR l r (ix l r)
 | [],r,_,u,O=>by
  rw[ix];exact⟨by simp[aV],u,rfl,rfl,λp=>by simp[iW],λp=>by simp[iX],λp q=>by simp[jU]⟩
 |x::xs,r,H,u,O=>by
  rw[aV,aem]at O;have B:=H x zk r.1 u zd;rw[ix];generalize sG x r.1=b at B⊢
  have hlen:b.1.labs.length=r.1.labs.length+(aI x).length:=by rw[B.labs];simp
  have A:=xS xs (b.1,r.2.1 ||| b.2.1,r.2.2 ||| b.2.2) (λy U=>H y (by simp[U])) B.len (by grind)
  refine⟨?_,A.len,?_,?_,λp=>?_,λp=>?_,λp q=>?_⟩
  ·rw[A.labs,B.labs,aV,agx]
  ·rw[A.la];exact B.la
  ·rw[A.em];exact B.em
  ·rw[A.fst,hlen,iW,agF,afa,B.fst];grind
  ·rw[A.Bd,hlen,iX,agF,afa,B.Bd];grind
  ·rw[A.vU,hlen,jU,B.vU];grind
theorem sH(x:Ex):∀st:cF,st.fs.length=25->st.labs.length+(aI x).length<=24->VZ x st (sG x st):=by
 induction x using Ex.ind with
 |h k s l ih=>
  intro st O hb
  by_cases u:k=1
  ·subst u
   have hl:aI (.mk 1 s l)=[s]:=by rw[aI,if_pos rfl]
   rw[hl]at hb;simp only[agz]at hb
   have U:∀p,(ofM ((st.labs.length+1:Nat):Int)).getLsbD p=true↔p=st.labs.length+1:=λp=>by
    rw[tE,decide_eq_true_eq];omega
   rw[sG,if_pos rfl];exact⟨by rw[hl],O,rfl,rfl,λp=>by rw[mz,if_pos rfl];exact U p,λp=>by rw[ln,if_pos rfl];exact U p,λp q=>by rw[kO,if_pos rfl,or_false]⟩
  ·rw[dL u]at hb;rw[sG,if_neg u]
   by_cases H:k=2
   ·subst H;rw[if_pos rfl];have S:=xT l ⟨st,true,0#32,0#32⟩ ih O (by grind[nL]) hb
    refine⟨by rw[dL u];exact S.labs,S.len,S.la,S.em,λp=>?_,λp=>?_,λp q=>?_⟩
    ·rw[mz,if_neg u,if_pos rfl,S.fst];simp
    ·rw[ln,if_neg u,if_pos rfl,S.Bd];simp
    ·rw[kO,if_neg u,if_pos rfl,S.vU];simp
   ·rw[if_neg H];have A:=xS l (st,0#32,0#32) ih O hb
    have W:∀p,mz (.mk k s l) st.labs.length p↔iW l st.labs.length p:=λp=>by rw[mz,if_neg u,if_neg H]
    have V:∀p,ln (.mk k s l) st.labs.length p↔iX l st.labs.length p:=λp=>by rw[ln,if_neg u,if_neg H]
    have aF:∀p,(ix l (st,0#32,0#32)).2.1.getLsbD p=true↔iW l st.labs.length p:=λp=>by rw[A.fst];simp
    have aL:∀p,(ix l (st,0#32,0#32)).2.2.getLsbD p=true↔iX l st.labs.length p:=λp=>by rw[A.Bd];simp
    by_cases Y:k=4∨k=5
    ·rw[if_pos Y];refine⟨by rw[dL u];exact A.labs,by rw[tq];exact A.len,A.la,A.em,λp=>by rw[W,aF],λp=>by rw[V,aL],λp q=>?_⟩;show((pd _ _ _).getD p 0#32).getLsbD q=true↔_
     rw[yL (λj hj=>by
      have:=iu ((aL j).1 (bq.1 hj))
      rw[A.len];omega),A.vU,aF,bq,aL,kO,if_neg u,if_neg H]
     grind
    ·rw[if_neg Y];refine⟨by rw[dL u];exact A.labs,A.len,A.la,A.em,λp=>by rw[W,aF],λp=>by rw[V,aL],λp q=>?_⟩;rw[A.vU,kO,if_neg u,if_neg H]
     grind
theorem vn(f:Nat->Nat)(l:B0):cm f (l.map encS)=l.map encS:=by
 induction l with
 |nil=>rfl
 |cons x l ih=>simp only[afZ,cm,ih];rfl
theorem cF.QV(s:cF)(n:Nat):s.os.map (λx=>some (x.map (aa.bb (sig [0,1] n))))=s.os.map some:=by
 simp only[cF.os,cF.row,aY,afZ,agt,Option.map_some,aa.bb,cm,bW,AV.bb,DD,vn]
 rfl
theorem ah.XM{P:Program}{f:FuncId}{args:C5}{s s':cF}{tl:AC}{q:AV}{K:AV->AC->Prop}(h:bT P f args s.os q s'.os)(hargs:bW (sig [0,1] (tl.length+2)) args=args)(u:aQ 2 args=true)(A:q.bb (sig [0,1] (tl.length+2))=q)
  (k:K q (s'.os++tl)):ah P f args (s.os++tl) K:=by
 have hn:(s.os++tl).length=tl.length+2:=by simp[cF.os]
 refine ah.fr [0,1] h zs ?_ ?_ u ?_ ?_
 ·rw[cF.QV];simp[cF.os]
 ·rw[hn,hargs]
 ·intro i ob hi
  match i,hi with
  |0,hi=>cases hi;simp only[cF.row,aY,bE,aQ,AV.wf,Jz];rfl
  |1,hi=>cases hi;exact bt _ (λ_=>rfl) _
  |i+2,hi=>simp[cF.os]at hi
 ·rw[hn,A]
  have e:fj (sig [0,1] (tl.length+2)) [0,1] s'.os (s.os++tl)=s'.os++tl:=by
   have h:=s'.QV (tl.length+2);simp only[cF.os,afZ,agt,List.cons.injEq,Option.some.injEq,and_true]at h;simp only[cF.os,fj,h.1,h.2,afz,afy,List.set_cons_zero,List.set_cons_succ,agt,List.append_nil]
  rw[e];exact k
def N6(x:Ex):Prop:=∀st:cF,st.fs.length=25->st.labs.length+(aI x).length<=24 ->
 bT prog 114 [.ptr 0 0 28 0 0,.agg (aP x)] st.os (.agg [aY (sG x st).2.1,aY (sG x st).2.2]) (sG x st).1.os
theorem jK:∀(l m:IO),aV (l++m)=aV l++aV m
 | [],m=>by simp[aV]
 |x::l,m=>by simp only[afz,aV,jK l m,agx]
structure YF(l:IO)(r:Sb)(k:Nat)(S:Sb):Prop where
 len:S.st.fs.length=25
 ends:∀p∈az S.ends,p<25
 labs:∀h:k<l.length,S.st.labs.length+(aI l[k]).length<=24
theorem W8{l:IO}{st:cF}(A:st.fs.length=25)(u:st.labs.length+(aV l).length<=24)(k:Nat):YF l ⟨st,true,0#32,0#32⟩ k (jy (l.take k) ⟨st,true,0#32,0#32⟩):=by
 have e:aV l=aV (l.take k)++aV (l.drop k):=by rw[<-jK,agG]
 rw[e,aem]at u;have S:=xT (l.take k) ⟨st,true,0#32,0#32⟩ (λx _=>sH x) A (by rw[nL];intro p q;cases q) (by show st.labs.length+(aV (l.take k)).length<=24;omega)
 refine⟨S.len,λp q=>?_,λh=>?_⟩
 ·rcases(S.Bd p).1 (bq.1 q)with h|h
  ·simp at h
  ·have H:p<=st.labs.length+(aV (l.take k)).length:=(iu (B5 h)).2;omega
 ·rw[S.labs,aem];rw[afW h,aV,aem]at u;simp only;omega
theorem LQ{l:IO}{k:Nat}(h:k<l.length)(r:Sb):jy (l.take (k+1)) r=dB l[k] (sG l[k] (jy (l.take k) r).st) (jy (l.take k) r):=by
 rw[agD h,EF];rfl
theorem W9(l:IO)(hl:l.length<=24)(hk:∀x∈l,x.ok∧aD x=true)(H:∀x∈l,N6 x)(st:cF)(U:st.fs.length=25)(hb:st.labs.length+(aV l).length<=24) :
  bT prog 146 [.ptr 0 0 28 0 0,.aA 3 (l.map aP) l.length] st.os (.agg [aY (jy l ⟨st,true,0#32,0#32⟩).first,aY (jy l ⟨st,true,0#32,0#32⟩).ends]) (jy l ⟨st,true,0#32,0#32⟩).st.os:=by
 have e0:jy (l.take 0) ⟨st,true,0#32,0#32⟩=⟨st,true,0#32,0#32⟩:=rfl;have eZ:aY 0#32=.v (.int .u32 0):=rfl;simp only[aY,cF.os,cF.row];refine gF func146 ntmps146 results146 ?_
 (refine ag ?_;intro K hK)
 refine b7 (ι:=Nat) (λk=>[(0,.ptr 0 0 28 0 0),(4,.ptr 2 0 2 0 0),(5,.v (.bool (jy (l.take k) ⟨st,true,0#32,0#32⟩).op)),(6,aY (jy (l.take k) ⟨st,true,0#32,0#32⟩).ends),(10,.aA 3 (l.map aP) l.length),(11,.v (.int .i64 l.length)),(12,.v (.int .i64 k))])
  (λk=>(jy (l.take k) ⟨st,true,0#32,0#32⟩).st.os++[some ⟨190,2,false,[[aY (jy (l.take k) ⟨st,true,0#32,0#32⟩).first,.v (.int .u32 0)]]⟩]) (λk=>l.length-k) (λk=>k<=l.length) 0 zd ?_ ?_
 ·simp only[e0,aY,cF.os,cF.row,afz,afy]
  refine ab (bF ?_) (bF ?_) ar
  ·exact⟨rfl,rfl⟩
  ·rfl
 ·intro k hkl K hK;have A:=W8 U hb k;generalize Y:jy (l.take k) ⟨st,true,0#32,0#32⟩=S at A⊢;simp only[aY,cF.os,cF.row,afz,afy];simp only[bN,afD,List.foldl_nil,List.replicate_succ,List.replicate_zero,go_sem]
  (revert K;revert K;refine ag ?_;intro K hK K hK K hK)
  refine cn.part (λh=>?_) (λh=>?_)
  ·have q:k<l.length:=by replace h:=cq h;omega
   have eG:=getD_map aP l k [] q;have eW:=ae (k:=k) zd;have V:=H l[k] (afm q) S.st A.len (A.labs q);have B:=sH l[k] S.st A.len (A.labs q);have W:=hk l[k] (afm q);have O:=wP l[k] W.1;rw[cH,W.2,afi]at O
   have hNext:jy (l.take (k+1)) ⟨st,true,0#32,0#32⟩=dB l[k] (sG l[k] S.st) S:=by rw[LQ q,Y]
   generalize l[k]=x at *;generalize sG x S.st=b at *;have C2:=P0 b.1 S.ends b.2.1 B.len A.ends;simp only[aB]at eG V O;simp only[aY]at V C2
   have wE:aQ 2 [.ptr 0 0 28 0 0,.agg [.v (.int .i64 x.kind),.v (.string x.label),.aA 3 (x.kids.map aP) x.kids.length]]=true:=by simp only[aQ,AV.wf,bI,agp,afi];rfl
   have rE:∀f:Nat->Nat,f 0=0->bW f [.ptr 0 0 28 0 0,.agg [.v (.int .i64 x.kind),.v (.string x.label),.aA 3 (x.kids.map aP) x.kids.length]]=[.ptr 0 0 28 0 0,.agg [.v (.int .i64 x.kind),.v (.string x.label),.aA 3 (x.kids.map aP) x.kids.length]]:=λf U=>by
    simp only[bW,AV.bb,U,bj f _ (bI 0 x.kids)]
   ((iterate 3 revert K);refine ak eG ?_;iterate 5 intro K hK)
   refine ah.XM V (rE _ rfl) wE rfl ?_;simp only[cF.os,cF.row,aY,afz,afy];obtain⟨sS,op,en,fi⟩:=S;simp only at *
   ((iterate 5 revert K);refine ag ?_;iterate 5 intro K hK)
   refine ah.XM C2 rfl rfl rfl ?_;simp only[cF.os,cF.row,aY,afz,afy];cases op<;>cases u:aS x
   all_goals
    rw[u]at O
    repeat(first|(with_reducible first|refine bA.up ?_|refineλ(K:AK)hK=>?_|(refine hK _ ?_;clear hK K))|simp only[go_sem,ov]|with_reducible refine wA ?_|clear hK K)
    refine ah.one O ?_
    repeat(first|(with_reducible first|refine bA.up ?_|refineλ(K:AK)hK=>?_|(refine hK _ ?_;clear hK K))|simp only[go_sem,ov]|with_reducible refine wA ?_|clear hK K)
    refine aw.mk (k+1) zd zd ?_;rw[hNext];simp only[dB,u,cF.os,cF.row,aY,afz,afy,if_true,if_false,Bool.false_eq_true];refine ab (bF ?_) ar ar
    all_goals first|exact eW|exact⟨ov 0#32 _,eW⟩|exact⟨ov _ _,eW⟩
  ·have hkl':k=l.length:=by replace h:=cq h;omega
   have eT:jy l ⟨st,true,0#32,0#32⟩=S:=by rw[<-Y,hkl',agE]
   ((iterate 3 revert K);refine ag ?_)
   refine⟨AW ?_,AW ?_,ej⟩
   ·rw[eT]
   ·rw[eT];exact⟨rfl,rfl⟩
theorem LP{l:IO}{k:Nat}(h:k<l.length)(r:cF×BitVec 32×BitVec 32):ix (l.take (k+1)) r=((sG l[k] (ix (l.take k) r).1).1,(ix (l.take k) r).2.1 ||| (sG l[k] (ix (l.take k) r).1).2.1,(ix (l.take k) r).2.2 ||| (sG l[k] (ix (l.take k) r).1).2.2):=by
 rw[agD h,EE];rfl
structure Yr(l:IO)(k:Nat)(S:cF×BitVec 32×BitVec 32):Prop where
 len:S.1.fs.length=25
 Bd:∀p∈az S.2.2,p<25
 labs:∀h:k<l.length,S.1.labs.length+(aI l[k]).length<=24
theorem Wa{l:IO}{st:cF}(A:st.fs.length=25)(q:st.labs.length+(aV l).length<=24)(k:Nat):Yr l k (ix (l.take k) (st,0#32,0#32)):=by
 have e:aV l=aV (l.take k)++aV (l.drop k):=by rw[<-jK,agG]
 rw[e,aem]at q;have S:=xS (l.take k) (st,0#32,0#32) (λx _=>sH x) A (by show st.labs.length+(aV (l.take k)).length<=24;omega)
 refine⟨S.len,λp u=>?_,λh=>?_⟩
 ·rcases(S.Bd p).1 (bq.1 u)with h|h
  ·simp at h
  ·have H:p<=st.labs.length+(aV (l.take k)).length:=(iu h).2;omega
 ·rw[S.labs,aem];rw[afW h,aV,aem]at q;simp only;omega
theorem oJ{k:Int}{s:ByteArray}{l:IO}(h:aD (.mk k s l)=true):∀x∈l,aD x=true:=λx A=>by
 simp only[aD,Bool.and_eq_true,decide_eq_true_eq,List.all_eq_true]at h⊢
 have u:∀y,y∈aq x->y∈aq (.mk k s l):=λy q=>by
  rw[aq,bO];exact List.mem_cons_of_mem _ (List.mem_flatMap.2 ⟨x,A,q⟩)
 refine⟨?_,λy q=>h.2 y (u y q)⟩
 have:=iN (.mk k s l) x (u x (by obtain⟨O,s',H⟩:=x;rw[aq];exact List.mem_cons_self))
 omega
theorem KA:∀{l:IO},q8 l->∀x∈l,x.ok
 | [],_,x,q=>by cases q
 |y::l,h,x,q=>by
  rw[q8]at h
  rcases List.mem_cons.1 q with rfl|q
  ·exact h.1
  ·exact KA h.2 x q
theorem WO(x:Ex)(ho:x.ok)(hr:aD x=true):N6 x:=by
 induction x using Ex.ind with
 |h k s l ih=>
  intro st U V;have q:∀x∈l,x.ok∧aD x=true:=λx O=>⟨KA (by rw[Ex.ok]at ho;exact ho.2) x O,oJ hr x O⟩;have H:∀x∈l,N6 x:=λx O=>ih x O (q x O).1 (q x O).2
  have hl:l.length<=24:=by
   simp only[aD,Bool.and_eq_true,decide_eq_true_eq]at hr
   have:=mj (.mk k s l);simp only[Ex.kids]at this;omega
  by_cases W:k=1
  ·subst W;rw[aI,if_pos rfl]at V;simp only[agz]at V;have C:=WI ((st.labs.length+1:Nat):Int)
   have eL:(st.labs++[s]).map encS=st.labs.map encS++[[.v (.string s)]]:=by simp[encS]
   have eN:(st.labs++[s]).length=st.labs.length+1:=zk
   rw[sG,if_pos rfl];simp only[aB,Ex.kind,Ex.label,Ex.kids,aY,cF.os,cF.row,eL,eN]at C⊢;refine gF func114 ntmps114 results114 ?_
   (refine Y1 3 ?_;intro K hK K hK)
   refine bG [8,11] [] za zo ?_
   (revert K;revert K;refine ag ?_;intro K hK K hK K hK)
   ((iterate 3 revert K);refine aM C ?_)
   exact⟨ej,ej,ej⟩
  ·have f1:(k==1)=false:=beq_false_of_ne W;rw[dL W]at V;rw[sG,if_neg W]
   have wE:aQ 2 [.ptr 0 0 28 0 0,.aA 3 (l.map aP) l.length]=true:=by simp only[aQ,AV.wf,bI,agp,afi];rfl
   have rE:∀f:Nat->Nat,f 0=0->bW f [.ptr 0 0 28 0 0,.aA 3 (l.map aP) l.length]=[.ptr 0 0 28 0 0,.aA 3 (l.map aP) l.length]:=λf U=>by
    simp only[bW,AV.bb,U,bj f _ (bI 0 l)]
   by_cases h2:k=2
   ·subst h2;have C:=W9 l hl q H st U V;rw[if_pos rfl];generalize jy l ⟨st,true,0#32,0#32⟩=R at *;simp only[aB,Ex.kind,Ex.label,Ex.kids,aY]at C⊢;refine gF func114 ntmps114 results114 ?_
    repeat((fail_if_success (with_reducible refine ku (i:=3) ?_));first|(with_reducible first|refine bA.up ?_|refineλ(K:AK)hK=>?_|refine au zs ?_|refine ay zs ?_|(refine hK _ ?_;clear hK K))|simp only[go_sem,f1,cF.os,cF.row,aY]|with_reducible refine wA ?_|(refine aO rfl rfl ?_)|(refine aE rfl ?_)|clear hK K)
    refine ah.XM C (rE _ rfl) wE rfl ?_;simp only[cF.os,cF.row,aY,afz,afy]
    ((iterate 3 revert K);refine ag ?_)
    exact⟨ej,ej,ej⟩
   ·have f2:(k==2)=false:=beq_false_of_ne h2;rw[if_neg h2];have e0:ix (l.take 0) (st,0#32,0#32)=(st,0#32,0#32):=rfl;simp only[aB,Ex.kind,Ex.label,Ex.kids,aY];refine gF func114 ntmps114 results114 ?_
    repeat((fail_if_success (with_reducible refine ku (i:=3) ?_));first|(with_reducible first|refine bA.up ?_|refineλ(K:AK)hK=>?_|refine au zs ?_|refine ay zs ?_|(refine hK _ ?_;clear hK K))|simp only[go_sem,f1,f2,cF.os,cF.row,aY]|with_reducible refine wA ?_|(refine aO rfl rfl ?_)|(refine aE rfl ?_)|clear hK K)
    refine b7 (ι:=Nat) (λj=>[(0,.ptr 0 0 28 0 0),(3,.ptr 2 0 3 0 0),(4,.ptr 3 0 2 0 0),(40,.aA 3 (l.map aP) l.length),(41,.v (.int .i64 l.length)),(42,.v (.int .i64 j))])
     (λj=>(ix (l.take j) (st,0#32,0#32)).1.os++[some ⟨25,3,false,[[.v (.int .i64 k),.v (.string s),.aA 3 (l.map aP) l.length]]⟩,some ⟨190,2,false,[[aY (ix (l.take j) (st,0#32,0#32)).2.1,aY (ix (l.take j) (st,0#32,0#32)).2.2]]⟩]) (λj=>l.length-j) (λj=>j<=l.length) 0 zd ?_ ?_
    ·simp only[e0,aY,cF.os,cF.row,afz,afy];refine ab (bF ?_) (bF ?_) ar
     all_goals first|rfl|exact⟨rfl,rfl⟩
    ·intro j hjl K hK;have A:=Wa U V j;generalize hS:ix (l.take j) (st,0#32,0#32)=S at A⊢;simp only[aY,cF.os,cF.row,afz,afy];simp only[bN,afD,List.foldl_nil,List.replicate_succ,List.replicate_zero,go_sem]
     (revert K;revert K;refine ag ?_;intro K hK K hK K hK)
     refine cn.part (λh=>?_) (λh=>?_)
     ·have u:j<l.length:=by replace h:=qv h;omega
      have eG:=getD_map aP l j [] u;have eW:=ae (k:=j) zd;have C1:=H l[j] (afm u) S.1 A.len (A.labs u);have hNext:=LP u (st,0#32,0#32);rw[hS]at hNext;generalize l[j]=x at *;generalize sG x S.1=b at *;simp only[aB]at eG C1;simp only[aY]at C1
      have wX:aQ 2 [.ptr 0 0 28 0 0,.agg [.v (.int .i64 x.kind),.v (.string x.label),.aA 3 (x.kids.map aP) x.kids.length]]=true:=by simp only[aQ,AV.wf,bI,agp,afi];rfl
      have rX:∀f:Nat->Nat,f 0=0->bW f [.ptr 0 0 28 0 0,.agg [.v (.int .i64 x.kind),.v (.string x.label),.aA 3 (x.kids.map aP) x.kids.length]]=[.ptr 0 0 28 0 0,.agg [.v (.int .i64 x.kind),.v (.string x.label),.aA 3 (x.kids.map aP) x.kids.length]]:=λf U=>by
       simp only[bW,AV.bb,U,bj f _ (bI 0 x.kids)]
      obtain⟨sS,fi,la⟩:=S;simp only at *
      ((iterate 3 revert K);refine ak eG ?_;iterate 5 intro K hK)
      refine ah.XM C1 (rX _ rfl) wX rfl ?_;simp only[cF.os,cF.row,aY,afz,afy]
      ((iterate 5 revert K);refine jd 12 @ov ?_;intro K hK K hK K hK)
      refine bG [11,13] [(8,1999)] za zo ?_
      ((iterate 3 revert K);refine ak @ov ?_)
      refine aw.mk (j+1) zd zd ?_;rw[hNext];simp only[cF.os,cF.row,aY,afz,afy];refine ab (bF ?_) ar ar
      all_goals first|exact eW|skip
     ·have hjl':j=l.length:=by replace h:=qv h;omega
      have eT:ix l (st,0#32,0#32)=S:=by rw[<-hS,hjl',agE]
      have C:=P0 S.1 S.2.2 S.2.1 A.len A.Bd;obtain⟨sS,fi,la⟩:=S;simp only at *;simp only[aY]at C
      by_cases h4:k=4
      ·subst h4
       ((iterate 3 revert K);refine Pj ?_;intro K hK K hK)
       refine ah.XM C rfl rfl rfl ?_;simp only[cF.os,cF.row,aY,afz,afy]
       (revert K;revert K;refine ag ?_)
       rw[eT];simp only[true_or,if_true,cF.os,cF.row,aY];exact⟨ej,ej,ej⟩
      ·by_cases Y:k=5
       ·subst Y
        ((iterate 3 revert K);refine Pj ?_;intro K hK K hK)
        refine ah.XM C rfl rfl rfl ?_;simp only[cF.os,cF.row,aY,afz,afy]
        (revert K;revert K;refine ag ?_)
        rw[eT];simp only[or_true,if_true,cF.os,cF.row,aY];exact⟨ej,ej,ej⟩
       ·have f4:(k==4)=false:=beq_false_of_ne h4;have f5:(k==5)=false:=beq_false_of_ne Y
        ((iterate 3 revert K);refine dj (q9 f4 f5) ?_)
        rw[eT];simp only[h4,Y,or_self,if_false,cF.os,cF.row,aY];exact⟨ej,ej,ej⟩
def kn(s:cF):C5:= .aA 1 (s.labs.map encS) s.labs.length::(s.fs.map aY++[aY s.la,.v (.bool s.em)])
theorem DZ(n:Nat)(s:cF):aQ n (kn s)=true:=by simp only[kn,aY,aQ,AV.wf,Jz,bz,Bool.and_self]
attribute [go_sem] DZ
theorem WB(s:cF):aj prog 153 [.vp (kn s)] (.v (.int .i64 s.labs.length)):=by
 simp only[kn,aY];refine gE func153 ntmps153 results153 ?_
 repeat' (first|(with_reducible first|refine bA.up ?_|refineλ(K:AK)hK=>?_|(refine hK _ ?_;clear hK K))|simp only[go_sem]|clear hK K|(with_reducible refine ah.one zf ?_)|(with_reducible refine bQ.one zf ?_)|(refine cn.part (λq=>?_) (λq=>?_)<;>simp only[q,go_sem])|(refine cn.part (λq=>?_) (λq=>?_))|(with_reducible refine oV.mk ?_ ?_))
theorem Ud(s:cF)(q:s.fs.length=25):aj prog 117 [.vp (kn s)] (.aA 1 (aT (az s.la)) (az s.la).length):=by
 have C:=P6 s.la
 have eD:List.drop 25 (s.fs.map aY++[.v (.int .u32 s.la.toNat),.v (.bool s.em)])=[.v (.int .u32 s.la.toNat),.v (.bool s.em)]:=by rw[List.drop_append_of_le_length (by simp[q]),List.drop_eq_nil_of_le (by simp[q])];rfl
 simp only[kn,aY]at *;refine gE func117 ntmps117 results117 ?_
 (refine ak eD ?_;intro K hK K hK)
 (revert K;revert K;refine aM C ?_)
 (refine iE.of 40 rfl ?_;simp only[go_sem])
theorem Qg(s:cF)(q:s.fs.length=25):aj prog 122 [.vp (kn s)] (.v (.bool s.em)):=by
 have eD:List.drop 26 (s.fs.map aY++[.v (.int .u32 s.la.toNat),.v (.bool s.em)])=[.v (.bool s.em)]:=by
  rw[show 26=s.fs.length+1 by omega,show(s.fs.length+1)=(s.fs.map aY).length+1 by simp,List.drop_append];simp
 simp only[kn,aY]at *;refine gE func122 ntmps122 results122 ?_;exact Ff eD
def gz(s:cF)(p:Int):ByteArray:=if 1<=p∧p<=s.labs.length then s.labs.getD (p-1).toNat ⟨#[]⟩else⟨#[]⟩
def adh(s:cF)(p:Int):Do:=if 1<=p∧p<=s.labs.length then az (s.fs.getD p.toNat 0#32)else []
theorem Mw{s:cF}{p:Int}(A:1<=p)(u:p<=s.labs.length):(s.labs.map encS).getD (p-1).toNat []=[.v (.string (gz s p))]:=by
 have q:(p-1).toNat<s.labs.length:=zd
 rw[gz,if_pos ⟨A,u⟩];rw[aeS,aeS,List.getElem?_map,List.getElem?_eq_getElem q];rfl
theorem Pg{fs:List (BitVec 32)}{X:C5}{p:Nat}(h:p<fs.length):∃r,(fs.map aY++X).drop (p*1)=aY (fs.getD p 0#32)::r:=by
 obtain⟨r,e⟩:=Kk (l:= .undef) (X:=X) h;rw[Nat.add_comm,List.drop_succ_cons]at e;exact⟨r,e⟩
def r7(s:cF)(l:Do):BitVec 32:=l.foldl (λt p=>t ||| s.fs.getD p 0#32) 0#32
def yA(s:cF)(lab:ByteArray)(t:BitVec 32)(p:Nat):BitVec 32:=if(gz s p).toList==lab.toList then t else t &&& ~~~ ofM p
def o6(s:cF)(lab:ByteArray)(l:Do)(t:BitVec 32):BitVec 32:=l.foldl (yA s lab) t
def kr(s:cF)(bN:BitVec 32)(lab:ByteArray):BitVec 32:=o6 s lab (az (r7 s (az bN))) (r7 s (az bN))
theorem MP(s:cF)(l:Do)(p:Nat):r7 s (l++[p])=r7 s l ||| s.fs.getD p 0#32:=by rw[r7,agw];rfl
theorem II(s:cF)(lab:ByteArray)(l:Do)(t:BitVec 32)(p:Nat):o6 s lab (l++[p]) t=yA s lab (o6 s lab l t) p:=by rw[o6,agw];rfl
theorem Xh(s:cF)(fr:BitVec 32)(lab:ByteArray)(hf:s.fs.length=25)(hn:s.labs.length<=24)(h1:∀p∈az fr,p<25)(Y:∀p∈az (r7 s (az fr)),1<=p∧p<=s.labs.length) :
  aj prog 154 [.vp (kn s),aY fr,.v (.string lab)] (aY (kr s fr lab)):=by
 have A1:=ue fr;have A2:=ue (r7 s (az fr));have O:=λp=>WI p;have hV:=DZ;obtain⟨V,H⟩:∃V,V=kn s:=⟨_,rfl⟩;simp only[rG,aY]at *;refine gE func154 ntmps154 results154 ?_
 (refine bc ?_;intro K hK K hK K hK)
 refine ah.fr [] A1 zk ?_ ?_ ?_ ?_ ?_
 ·rfl
 ·rfl
 ·rfl
 ·intro k ob q;simp at q
 ((iterate 3 revert K);refine bc ?_;intro K hK)
 refine kP fr 3 (by simp only[rG,aY];rfl) 7 (λk=>[some ⟨149,1,false,[[.vp (kn s)]]⟩,some ⟨9,1,false,[[.v (.string lab)]]⟩,some ⟨185,1,false,[[aY (r7 s ((az fr).take k))]]⟩,none]) (λ_=>True) trivial ?_ rfl ?_ zo zo rfl ?_ ?_
 ·rfl
 ·simp only[aY];refine ab ar (bF ?_) ar
  all_goals rfl
 ·intro k q _;have A:=h1 _ (List.getElem_mem q);rw[agD q,MP];generalize r7 s ((az fr).take k)=T at *;generalize(az fr)[k]=p at *;obtain⟨r,eD⟩:=Pg (X:=[.v (.int .u32 s.la.toNat),.v (.bool s.em)]) (fs:=s.fs) (p:=p) zd;simp only[aY,kn]at eD⊢
  (revert K;refine aG (q9 eD @ov) ?_)
  exact ab ar ar ar
 ·intro _;have e1:(az fr).take (az fr).length=az fr:=List.take_length;simp only[e1,aY,kn]
  (revert K;refine bc ?_;intro K hK K hK K hK)
  refine ah.fr [] A2 zk ?_ ?_ ?_ ?_ ?_
  ·rfl
  ·rfl
  ·rfl
  ·intro k ob q;simp at q
  ((iterate 3 revert K);refine bc ?_;intro K hK)
  have W:kr s fr lab=o6 s lab (az (r7 s (az fr))) (r7 s (az fr)):=rfl;generalize r7 s (az fr)=T at *
  refine kP T 4 (by simp only[rG,aY];rfl) 7 (λk=>[some ⟨149,1,false,[[.vp (kn s)]]⟩,some ⟨9,1,false,[[.v (.string lab)]]⟩,some ⟨185,1,false,[[aY (o6 s lab ((az T).take k) T)]]⟩,none,none]) (λ_=>True) trivial ?_ rfl ?_ zo zo rfl ?_ ?_
  ·rfl
  ·simp only[aY,kn];refine ab ar (bF ?_) ar
   all_goals rfl
  ·intro k q _;have A:=Y _ (List.getElem_mem q);rw[agD q,II,yA];generalize o6 s lab ((az T).take k) T=U at *;generalize(az T)[k]=p at *;have eG:=Mw (s:=s) (p:=p) zd zd;have eW:IntKind.i64.wrap ((p:Int)-1)=(p:Int)-1:=bS zd zd;have C:=O p;simp only[aY,kn]
   cases u:(gz s p).toList==lab.toList
   ·simp only[afq,if_false]
    (revert K;refine jd 7 (mQ eG eW u) ?_;intro K hK K hK K hK)
    refine wD ?_
    ((iterate 3 revert K);refine ak (mQ eG eW u) ?_;intro K hK)
    refine bG [4] [] za zo ?_
    (revert K;refine ak (mQ eG eW u) ?_;intro K hK K hK)
    (revert K;revert K;refine Io C @T8 ?_)
    exact ab ar ar ar
    all_goals rfl
   ·simp only[if_true]
    (revert K;refine aG (mQ eG eW u) ?_)
    exact ab ar ar ar
    all_goals rfl
  ·intro _;have e2:(az T).take (az T).length=az T:=List.take_length;simp only[e2,aY,kn]
   (revert K;refine bc ?_)
   rw[W]
structure Eh(s:cF):Prop where
 len:s.fs.length=25
 n:s.labs.length<=24
 vU:∀p q,(s.fs.getD p 0#32).getLsbD q=true->1<=q∧q<=s.labs.length
 la:∀q,s.la.getLsbD q=true->1<=q∧q<=s.labs.length
theorem yk{f:Nat->BitVec 32}{q:Nat}:∀(l:Do)(t:BitVec 32),(l.foldl (λt p=>t ||| f p) t).getLsbD q=true↔t.getLsbD q=true∨∃p∈l,(f p).getLsbD q=true
 | [],t=>zk
 |x::l,t=>by
  rw[afD,yk l,BitVec.getLsbD_or,Bool.or_eq_true];simp only[afO,exists_eq_or_imp,or_assoc]
theorem tG{s:cF}{l:Do}{q:Nat}:(r7 s l).getLsbD q=true ↔ ∃p∈l,(s.fs.getD p 0#32).getLsbD q=true:=by
 rw[r7,yk];simp
theorem u0{s:cF}{lab:ByteArray}{q:Nat}(U:q<=24):∀(l:Do)(t:BitVec 32),(o6 s lab l t).getLsbD q=true↔t.getLsbD q=true∧(q∈l->((gz s q).toList==lab.toList)=true)
 | [],t=>by simp[o6]
 |x::l,t=>by
  rw[o6,afD, <- o6,u0 U l,yA]
  split
  ·rename_i h;simp only[afO]
   constructor
   ·rintro⟨u,H⟩;exact⟨u,λA=>A.elim (λe=>by rw[e];exact h) H⟩
   ·rintro⟨u,H⟩;exact⟨u,λA=>H (.inr A)⟩
  ·rename_i h;rw[afU,BitVec.getLsbD_not,tE];simp only[afO]
   constructor
   ·rintro⟨u,H⟩;simp only[aeW,Bool.not_eq_true',decide_eq_false_iff_not,decide_eq_true_eq]at u;have O:q≠x:=λe=>u.2.2 ⟨zd,zd,zd⟩;exact⟨u.1,λA=>A.elim (λe=>absurd e O) H⟩
   ·rintro⟨u,H⟩;have O:q≠x:=λe=>h (by rw[<-e];exact H (.inl e));refine⟨?_,λA=>H (.inr A)⟩;simp only[aeW,Bool.not_eq_true',decide_eq_false_iff_not,decide_eq_true_eq];exact⟨u,zd,λA=>O zd⟩
theorem nr{s:cF}(ok:Eh s){m:BitVec 32}{lab:ByteArray}{q:Nat}:(kr s m lab).getLsbD q=true ↔ ∃p,m.getLsbD p=true∧(s.fs.getD p 0#32).getLsbD q=true∧(gz s q).toList=lab.toList:=by
 have V:∀q,(r7 s (az m)).getLsbD q=true->1<=q∧q<=s.labs.length:=λq h=>by
  obtain⟨p,_,h⟩:=tG.1 h;exact ok.vU p q h
 have sub:∀(l:Do)(t:BitVec 32),(o6 s lab l t).getLsbD q=true->t.getLsbD q=true:=λl=>by
  induction l with
  |nil=>intro t h;exact h
  |cons x l ih=>
   intro t h
   have:=ih _ h
   rw[yA]at this
   split at this
   ·exact this
   ·rw[afU,aeW]at this;exact this.1
 constructor
 ·intro h;have u:=sub _ _ h;have A:=V q u;have U:=ok.n
  have:=((u0 zd _ _).1 h).2 (bq.2 u)
  obtain⟨p,O,H⟩:=tG.1 u;exact⟨p,bq.1 O,H,by simpa using this⟩
 ·rintro⟨p,u,A,U⟩;have O:=ok.vU p q A;have H:=ok.n;exact(u0 zd _ _).2 ⟨tG.2 ⟨p,bq.2 u,A⟩,λ_=>by simpa using U⟩
theorem UX{s:cF}(ok:Eh s)(m:BitVec 32)(lab:ByteArray)(A:∀p∈az m,p<25):aj prog 154 [.vp (kn s),aY m,.v (.string lab)] (aY (kr s m lab)):=
 Xh s m lab ok.len ok.n A (λp u=>by
  obtain⟨q,_,h⟩:=tG.1 (bq.1 u)
  exact ok.vU _ _ h)
def yq(s:cF)(t:BitVec 32)(p:Int):BitVec 32:=if p<=s.labs.length then t ||| ofM p else t
def iL(s:cF)(l:M2):BitVec 32:=l.foldl (yq s) 0#32
theorem Il(s:cF)(l:M2)(p:Int):iL s (l++[p])=yq s (iL s l) p:=by rw[iL,agw];rfl
theorem mP{s:cF}(ok:Eh s){q:Nat}:∀(l:M2)(t:BitVec 32),(l.foldl (yq s) t).getLsbD q=true↔t.getLsbD q=true∨((q:Int)∈l∧q<=s.labs.length)
 | [],t=>zk
 |x::l,t=>by
  have hn:=ok.n;rw[afD,mP ok l,yq,afO]
  split
  ·rename_i h;rw[BitVec.getLsbD_or,Bool.or_eq_true,tE,decide_eq_true_eq]
   constructor
   ·rintro((h|h)|h)
    ·exact .inl h
    ·exact .inr ⟨.inl h.2.2,zd⟩
    ·exact .inr ⟨.inr h.1,h.2⟩
   ·rintro(h|⟨h|h,u⟩)
    ·exact .inl (.inl h)
    ·exact .inl (.inr ⟨zd,zd,h⟩)
    ·exact .inr ⟨h,u⟩
  ·rename_i h
   constructor
   ·rintro(h|h)
    ·exact .inl h
    ·exact .inr ⟨.inr h.1,h.2⟩
   ·rintro(h|⟨h|h,u⟩)
    ·exact .inl h
    ·exfalso;omega
    ·exact .inr ⟨h,u⟩
theorem Pe{s:cF}(ok:Eh s)(l:M2):∀p∈az (iL s l),p<25:=λp q=>by
 have:=(mP ok l 0#32).1 (bq.1 q)
 have:=ok.n
 simp at *; omega
theorem Ue{s:cF}(ok:Eh s)(l:M2)(lab:ByteArray)(hl:l.length<=1000000):aj prog 119 [.vp (kn s),.aA 1 (l.map encI) l.length,.v (.string lab)]
  (.aA 1 (aT (az (kr s (iL s l) lab))) (az (kr s (iL s l) lab)).length):=by
 have L:=WB s;have S:=UX ok (iL s l) lab (Pe ok l);have B:=P6 (kr s (iL s l) lab);have O:=λp=>WI p;have eZ:aY 0#32=.v (.int .u32 0):=rfl;generalize U:kr s (iL s l) lab=R at *;simp only[aY]at *;refine gE func119 ntmps119 results119 ?_
 (refine ag ?_;intro K hK)
 refine b7 (ι:=Nat) (λk=>[(0,.vp (kn s)),(1,.aA 1 (l.map encI) l.length),(2,.v (.string lab)),(6,.v (.slice none 0 0)),(7,aY (iL s (l.take k))),(12,.aA 1 (l.map encI) l.length),(13,.v (.int .i64 l.length)),(14,.v (.int .i64 k))]) (λk=>[]) (λk=>l.length-k) (λk=>k<=l.length) 0 zd ?_ ?_
 ·simp only[aY];refine ab (bF ?_) ar ar;exact⟨rfl,rfl⟩
 ·intro k A K hK;simp only[aY];simp only[bN,afD,List.foldl_nil,List.replicate_succ,List.replicate_zero,go_sem]
  (revert K;revert K;refine ag ?_;intro K hK K hK K hK)
  refine cn.part (λh=>?_) (λh=>?_)
  ·have q:k<l.length:=by replace h:=cq h;omega
   have eG:=getD_map encI l k [] q;have eW:=ae (k:=k) zd;have u:=Il s (l.take k) l[k];rw[<-agD q,yq]at u;have Ok:=O l[k];simp only[encI]at eG
   ((iterate 3 revert K);refine ak eG ?_;iterate 5 intro K hK)
   ((iterate 5 revert K);refine aM L ?_;intro K hK K hK K hK)
   refine cn.part (λh=>?_) (λh=>?_)
   ·rw[if_pos (by replace h:=cq h;omega)]at u
    ((iterate 3 revert K);refine ag ?_;iterate 4 intro K hK)
    ((iterate 4 revert K);refine dA Ok @ov ?_)
    refine aw.mk (k+1) zd zd ?_;rw[u];simp only[aY];refine ab (bF ?_) ar ar
    all_goals first|exact eW|skip
   ·rw[if_neg (by replace h:=cq h;omega)]at u
    ((iterate 3 revert K);refine ag ?_)
    refine aw.mk (k+1) zd zd ?_;rw[u];simp only[aY];refine ab (bF ?_) ar ar
    all_goals first|exact eW|skip
  ·have H:l.take k=l:=agH (by replace h:=cq h;omega);simp only[H]
   ((iterate 3 revert K);refine ag ?_;intro K hK K hK)
   (revert K;revert K;refine aM S ?_;intro K hK K hK)
   (revert K;revert K;refine aM B ?_)
   (refine iE.of 40 rfl ?_;simp only[go_sem])
def runM(s:cF)(w:B0):BitVec 32:=w.foldl (kr s) (ofM 0)
def zF(s:cF)(w:B0):Bool:=if w.length=0 then s.em else runM s w &&& s.la !=0#32
theorem Pf{o:AC}:∀(L:C5)(n:Nat),(∀c∈L,∃x,c=.v x)->L.length+2<=n->∃p,iY o n L=some (p,L)∧p
 | [],n+1,_,_=>⟨True,rfl,trivial⟩
 |a::l,n+2,q,hn=>by
  obtain⟨x,rfl⟩:=q a zk;obtain⟨p,H,A⟩:=Pf (o:=o) l (n+1) (λc u=>q c (by simp[u])) (by simp at hn;omega);exact⟨((AV.v x).wf 0=true)∧p,by rw[iY,H];rfl,rfl,A⟩
 |a::l,0,_,hn=>by simp at hn
 |a::l,1,_,hn=>by simp at hn
 | [],0,_,hn=>by simp at hn
def DR(x:Ex):cF:=⟨[],List.replicate 25 0#32,0#32,cH x⟩
def ba(x:Ex):cF:={(sG x (DR x)).1 with fs:=(sG x (DR x)).1.fs.set 0 (sG x (DR x)).2.1,la:=(sG x (DR x)).2.2}
theorem My(x:Ex):(aI x).length<=(aq x).length:=by
 induction x using Ex.ind with
 |h k s l ih=>
  have hl:∀m:IO,(∀y∈m,(aI y).length<=(aq y).length)->(aV m).length<=(b4 m).length:=λm=>by
   induction m with
   |nil=>intro _;simp[aV,b4]
   |cons y m ihm=>
    intro h;rw[aV,b4,List.length_append,List.length_append];have A:=h y zk;have u:=ihm (λz q=>h z (by simp[q]));omega
  have:=hl l ih
  rw[aI,aq,ae0]
  split
  ·simp
  ·omega
theorem u7{x:Ex}(h:aD x=true):(aI x).length<=24:=by
 simp only[aD,aeW,decide_eq_true_eq]at h
 have:=My x;omega
theorem Uh(labs:B0)(f1 q:BitVec 32)(rest:List (BitVec 32))(em:Bool)(H:rest.length=24)(o:AC)(V:o[1]?=some (some ⟨188,28,false,[.vec 2 labs.length::aY f1::(rest.map aY++[aY q,.v (.bool em)])]⟩))(U:o[2]?=some (some ⟨9,1,true,labs.map encS⟩)) :
  iE o (.ck [.ptr 1 0 28 0 0,.v (.int .i64 0)]) (.ck [.vp (kn ⟨labs,f1::rest,q,em⟩),.v (.int .i64 0)]):=by
 obtain⟨p,O,u⟩:=Pf (o:=o) (aY f1::(rest.map aY++[aY q,.v (.bool em)])) 50 (λc A=>by
  simp only[afO,List.mem_append,List.mem_map,List.not_mem_nil,or_false]at A
  rcases A with rfl|⟨y,_,rfl⟩|rfl|rfl
  ·exact⟨_,rfl⟩
  ·exact⟨_,rfl⟩
  ·exact⟨_,rfl⟩
  ·exact⟨_,rfl⟩) (by simp[H])
 have Y:jD o 50 (.vec 2 labs.length)=some (True∧(labs.map encS).length=labs.length∧bE 0 (labs.map encS)=true,.aA 1 (labs.map encS) labs.length):=by
  rw[jD,U];simp
 have W:iY o 51 (.vec 2 labs.length::aY f1::(rest.map aY++[aY q,.v (.bool em)]))=some ((True∧(labs.map encS).length=labs.length∧bE 0 (labs.map encS)=true)∧p,.aA 1 (labs.map encS) labs.length::aY f1::(rest.map aY++[aY q,.v (.bool em)])):=by
  rw[iY,Y,O]
 refine iE.of 54 (p:=((((True∧(labs.map encS).length=labs.length∧bE 0 (labs.map encS)=true)∧p)∧aa.hl ⟨188,28,false,[.vec 2 labs.length::aY f1::(rest.map aY++[aY q,.v (.bool em)])]⟩=0∧28=28∧0<1)∧(AV.v (.int .i64 0)).wf 0=true∧True)) ?_ ⟨⟨⟨⟨trivial,zk,bz 0 labs⟩,u⟩,rfl,rfl,zs⟩,rfl,trivial⟩;rw[jD,iY,jD,V];simp only[List.getD_cons_zero,W]
 rfl
theorem Zi(x:Ex)(H:x.ok):aj prog 82 [.agg (aP x)] (if aD x then .ck [.vp (kn (ba x)),.v (.int .i64 0)]else .ck [.v (.pointer none),.v (.int .i64 2)]):=by
 have R:=AM x H;have E:=wP x H
 cases A:aD x
 ·rw[A]at R;simp only[afq,if_false];simp only[aB]at *;refine gE func82 ntmps82 results82 ?_
  (refine ag ?_;intro K hK K hK K hK)
  ((iterate 3 revert K);refine aM R ?_)
  (refine iE.of 40 rfl ?_;simp only[go_sem])
 ·rw[A]at R;simp only[if_true];have u:(aI x).length<=24:=u7 A;have P:=WO x H A (DR x) (by simp[DR]) (by simp[DR];exact u);have B:=sH x (DR x) (by simp[DR]) (by simp[DR];exact u);simp only[ba];generalize sG x (DR x)=b at *;simp only[aB]at *;refine gE func82 ntmps82 results82 ?_
  (refine ag ?_;intro K hK K hK K hK)
  ((iterate 3 revert K);refine aM R ?_;intro K hK K hK)
  refine ah.one E ?_
  (revert K;revert K;refine dG 4 ?_;intro K hK)
  refine bn (dS (k:=1) (i:=0) (j:=0) 9 1 zs rfl (show 0<28 by decide) rfl rfl) zo ?_;simp only[ae0,List.length_nil,Nat.reduceAdd,List.cons_append,List.nil_append,List.set_cons_zero,List.set_cons_succ]
  (revert K;refine dG 5 ?_;intro K hK K hK)
  have wE:aQ 2 [.ptr 0 0 28 0 0,.agg [.v (.int .i64 x.kind),.v (.string x.label),.aA 3 (x.kids.map aP) x.kids.length]]=true:=by simp only[aQ,AV.wf,bI,Bool.and_self,Bool.true_and];rfl
  refine ah.fr [1,2] P zs rfl ?_ wE ?_ ?_
  ·simp only[bW,AV.bb,bj _ _ (bI 0 x.kids)];rfl
  ·intro i ob hi
   match i,hi with
   |0,hi=>cases hi;rfl
   |1,hi=>cases hi;rfl
   |i+2,hi=>simp[cF.os]at hi
  simp only[cF.os,cF.row,aY,fj,List.map_cons,List.map_nil,Option.map_some,aa.bb,cm,bW,AV.bb,DD,vn,ae0,List.length_nil,List.set_cons_zero,List.set_cons_succ,List.append_nil];have U:sig [1,2] 3 1=2:=rfl;simp only[Nat.reduceAdd,U];obtain⟨⟨labs,fs,la,em⟩,f1,O⟩:=b
  obtain⟨f0,rest,rfl⟩:∃f0 rest,fs=f0::rest:=by
   cases fs with
   |nil=>have:=B.len;simp at this
   |cons a r=>exact⟨a,r,rfl⟩
  have q:rest.length=24:=by have:=B.len;simpa using this
  have t24:List.take 24 (rest.map aY++[.v (.int .u32 la.toNat),.v (.bool em)])=rest.map aY:=by rw[List.take_append_of_le_length (by simp[q]),agH (by simp[q])]
  have d25:List.drop 25 (rest.map aY++[.v (.int .u32 la.toNat),.v (.bool em)])=[.v (.bool em)]:=by
   rw[show 25=(rest.map aY).length+1 by simp[q],List.drop_append];simp
  simp only[List.map_cons,aY,List.cons_append]
  (revert K;revert K;refine dG 5 ?_;intro K hK)
  refine bG [9,12] [(5,1999)] za zo ?_
  (revert K;refine fb t24 d25 ?_)
  refine Uh labs f1 O rest em q _ rfl rfl
structure V1(x:Ex)(s:cF):Prop where
 labs:s.labs=aI x
 ok:Eh s
 fst:∀q,(s.fs.getD 0 0#32).getLsbD q=true↔mz x 0 q
 vU:∀p q,p≠0->((s.fs.getD p 0#32).getLsbD q=true↔kO x 0 p q)
 Bd:∀q,s.la.getLsbD q=true↔ln x 0 q
 em:s.em=aS x
theorem kj{x:Ex}(V:aD x=true):V1 x (ba x):=by
 have hn:=u7 V;have B:=sH x (DR x) (by simp[DR]) (by grind[DR])
 have U:∀p,(DR x).fs.getD p 0#32=0#32:=λp=>by
  grind[DR]
 have H:(DR x).labs.length=0:=rfl;have hl:(ba x).labs=aI x:=B.labs
 have hlen:(ba x).fs.length=25:=by simp only[ba,List.length_set];exact B.len
 have O:∀q,((ba x).fs.getD 0 0#32).getLsbD q=true↔mz x 0 q:=λq=>by
  simp only[ba];rw[uQ (by rw[B.len];decide),if_pos rfl,B.fst,H]
 have A:∀p q,p≠0->(((ba x).fs.getD p 0#32).getLsbD q=true↔kO x 0 p q):=λp q A=>by
  simp only[ba];rw[uQ (by rw[B.len];decide),if_neg A,B.vU,H,U];simp
 have u:∀q,(ba x).la.getLsbD q=true↔ln x 0 q:=λq=>by
  have:=B.Bd q;rw[H]at this;exact this
 refine⟨hl,⟨hlen,by grind,λp q h=>?_,λq h=>?_⟩,O,A,u,?_⟩
 ·rw[hl]
  by_cases e:p=0
  ·subst e;have:=jB x ((O q).1 h);omega
  ·have:=(fM x ((A p q e).1 h)).2;omega
 ·rw[hl];have:=iF x ((u q).1 h);omega
 ·show(sG x (DR x)).1.em=_;rw[B.em];grind[DR,cH]
theorem run_get{s:cF}(ok:Eh s){q:Nat}:∀(w:B0)(m:BitVec 32),(w.foldl (kr s) m).getLsbD q=true ↔ ∃p,m.getLsbD p=true∧bU (λp q=>(s.fs.getD p 0#32).getLsbD q=true) (λp=>gz s p) p w q
 | [],m=>by simp[bU]
 |a::w,m=>by
  rw[afD,run_get ok w]
  constructor
  ·rintro⟨r,U,H⟩;obtain⟨p,A,u,O⟩:=(nr ok).1 U;exact⟨p,A,r,u,toList_inj.1 (by simpa using O),H⟩
  ·rintro⟨p,A,r,u,rfl,H⟩;exact⟨r,(nr ok).2 ⟨p,A,u,rfl⟩,H⟩
theorem Ns{x:Ex}(V:aD x=true)(w:B0):zF (ba x) w=kR x w:=by
 have N:=kj V;have F:=(fO V).1
 by_cases W:w.length=0
 ·obtain rfl:=afM W;rw[zF,if_pos W,N.em,af7,iJ F,iK];simp[V]
 ·rw[zF,if_neg W,af7,iK];simp only[V,true_and];have hw:w≠[]:=λe=>W (by rw[e];rfl)
  have hg:qU (aI x) 0 (λp=>gz (ba x) p):=λi a hi=>by
   have hlt:=(List.getElem?_eq_some_iff.1 hi).1;show gz (ba x) ((0+1+i:Nat):Int)=a;rw[gz,if_pos (by rw[N.labs];omega),N.labs,aeS,show(((0+1+i:Nat):Int)-1).toNat=i by omega,hi];rfl
  rw[glu F hg hw]
  have h1:(runM (ba x) w &&& (ba x).la !=0#32)=true ↔ ∃q,(runM (ba x) w).getLsbD q=true∧(ba x).la.getLsbD q=true:=by
   rw[bne_iff_ne]
   constructor
   ·intro h
    by_cases hb:az (runM (ba x) w &&& (ba x).la)=[]
    ·grind[uG]
    ·obtain⟨q,hq⟩:=agI _ hb
     have:=bq.1 hq
     grind
   ·rintro⟨q,h1,h2⟩ e
    have:(runM (ba x) w &&& (ba x).la).getLsbD q=true:=by grind
    grind
  rw[h1]
  cases w with
  |nil=>grind
  |cons a v=>
   simp only[dy]
   have U:∀p,(ofM 0).getLsbD p=true↔p=0:=λp=>by rw[tE,decide_eq_true_eq];omega
   have hc:∀(v:B0)p q,p≠0->(bU (λp q=>((ba x).fs.getD p 0#32).getLsbD q=true) (λp=>gz (ba x) p) p v q↔bU (kO x 0) (λp=>gz (ba x) p) p v q):=λv=>by
    induction v with
    |nil=>intro p q _;exact Iff.rfl
    |cons b v ih=>
     intro p q hp;simp only[bU]
     constructor
     ·rintro⟨r,u,H,A⟩;have O:=(N.vU p r hp).1 u
      have:=(fM x O).2
      grind
     ·rintro⟨r,u,H,A⟩
      have:=(fM x u).2
      exact⟨r,(N.vU p r hp).2 u,H,(ih r q zd).2 A⟩
   constructor
   ·rintro⟨q,h2,h3⟩;obtain⟨p,u,r,H,A,O⟩:=(run_get N.ok _ _).1 h2;obtain rfl:=(U p).1 u;have Y:=(N.fst r).1 H
    have:=jB x Y
    exact⟨r,q,Y,A,(hc v r q zd).1 O,(N.Bd q).1 h3⟩
   ·rintro⟨r,q,u,H,A,O⟩
    have:=jB x u
    exact⟨q,(run_get N.ok _ _).2 ⟨0,(U 0).2 rfl,r,(N.fst r).2 u,H,(hc v r q zd).2 A⟩,(N.Bd q).2 O⟩
theorem S9{m n:BitVec 32}(h:∀q,m.getLsbD q=true↔n.getLsbD q=true):m=n:=by
 refine BitVec.eq_of_getLsbD_eq λq _=>?_
 grind
def b5(l:Do):M2:=l.map (λ(p:Nat)=>(p:Int))
theorem LW(l:Do):aT l=(b5 l).map encI:=by rw[aT,b5,List.map_map];rfl
theorem A4(l:Do):(b5 l).length=l.length:=by rw[b5,List.length_map]
theorem Ik{s:cF}(ok:Eh s){m:BitVec 32}(h:∀p,m.getLsbD p=true->p<=s.labs.length):iL s (b5 (az m))=m:=by
 refine S9 λq=>?_;rw[iL,mP ok,b5];simp only[BitVec.getLsbD_zero,afq,false_or,List.mem_map,Int.natCast_inj,exists_eq_right,bq]
 grind
theorem FU{p:Nat}:(ofM 0).getLsbD p=true↔p=0:=by rw[tE,decide_eq_true_eq];omega
def SI(a b:Do):Bool:=a.any (λp=>b.any (λq=>(q:Int)==(p:Int)))
theorem xK{a b:Do}:SI a b=true ↔ ∃p,p∈a∧p∈b:=by
 simp only[SI,List.any_eq_true,beq_iff_eq,Int.natCast_inj]
 grind
theorem J0(m n:BitVec 32):(m &&& n !=0#32)=SI (az m) (az n):=by
 rw[af7,xK,bne_iff_ne];simp only[bq]
 constructor
 ·intro h
  by_cases A:az (m &&& n)=[]
  ·grind[uG]
  ·obtain⟨q,u⟩:=agI _ A
   have:=bq.1 u
   grind
 ·rintro⟨q,O,H⟩ e
  have:(m &&& n).getLsbD q=true:=by grind
  grind
theorem O7{s:cF}(ok:Eh s)(w:B0):((w.length==0&&s.em)||SI (az (runM s w)) (az s.la))=zF s w:=by
 rw[zF, <- J0]
 by_cases q:w.length=0
 ·rw[if_pos q,q];obtain rfl:=afM q
  have:(runM s [] &&& s.la !=0#32)=false:=by
   rw[J0, <- Bool.not_eq_true,xK];rintro⟨p,A,u⟩;have H:=FU.1 (bq.1 A)
   have:=ok.la p (bq.1 u)
   omega
  grind
 grind
theorem E9{x:Ex}(h:Fit x):∀b,∃q,mz x b q:=by
 induction h with
 |lab s=>intro b;exact⟨b+1,by rw[mz,if_pos rfl]⟩
 |many k s l u hl _ ih=>
  intro b
  cases l with
  |nil=>simp at hl
  |cons x l=>
   obtain⟨q,A⟩:=ih x zk b;refine⟨q,?_⟩;rw[mz]
   rcases u with rfl|rfl
   ·grind[jx]
   grind[iW]
 |one k s x u _ ih=>
  intro b;obtain⟨q,A⟩:=ih b;refine⟨q,?_⟩;rw[mz]
  rcases u with rfl|rfl|rfl<;>simp[iW,A]
theorem Cq{g:Nat->ByteArray}:∀(l:IO),l≠[]->(∀x∈l,Fit x∧∀b p,b<p->p<=b+(aI x).length->∃w q,bU (kO x b) g p w q∧ln x b q)->∀b p,b<p->p<=b+(aV l).length->∃w q,bU (jw l b) g p w q∧lD l b q
 | [],h,_,_,_,_,_=>absurd rfl h
 |x::xs,_,h,b,p,h1,h2=>by
  rw[aV,aem]at h2;have hS:∀w p q,bU (jw xs (b+(aI x).length)) g p w q->bU (jw (x::xs) b) g p w q:=λw p q V=>V.imp (λp q hf=>by grind[jw]);have hX:∀w p q,bU (kO x b) g p w q->bU (jw (x::xs) b) g p w q:=λw p q V=>V.imp (λp q hf=>by grind[jw])
  rcases Nat.lt_or_ge (b+(aI x).length) p with q|q
  ·have O:xs≠[]:=by rintro rfl;grind[aV]
   obtain⟨w,r,A,W⟩:=Cq xs O (λy H=>h y (aeX _ H)) _ p q zd
   grind[lD]
  ·obtain⟨w,r,A,W⟩:=(h x afg).2 b p h1 q
   cases u:xs with
   |nil=>subst u;exact⟨w,r,hX _ _ _ A,by rw[lD];exact .inl ⟨rfl,W⟩⟩
   |cons y ys=>
    obtain⟨f,hf⟩:=E9 (h y (by grind)).1 (b+(aI x).length)
    have U:jx xs (b+(aI x).length) f:=by grind[jx]
    have Y:=iq (ur U);obtain⟨w2,r2,m1,m2⟩:=Cq xs (by grind) (λy H=>h y (aeX _ H)) _ f Y.1 Y.2;rw[<-u];exact⟨w++g f::w2,r2,bU.app.2 ⟨r,hX _ _ _ A,f,by grind[jw],rfl,hS _ _ _ m1⟩,by grind[lD]⟩
theorem Cp{g:Nat->ByteArray}:∀(l:IO),(∀x∈l,∀b p,b<p->p<=b+(aI x).length->∃w q,bU (kO x b) g p w q∧ln x b q)->∀b p,b<p->p<=b+(aV l).length->∃w q,bU (jU l b) g p w q∧iX l b q
 | [],_,b,p,H,A=>by grind[aV]
 |x::xs,h,b,p,H,A=>by
  rw[aV,aem]at A
  rcases Nat.lt_or_ge (b+(aI x).length) p with q|q
  ·obtain⟨w,r,u,O⟩:=Cp xs (λy U=>h y (aeX _ U)) _ p q zd;exact⟨w,r,u.imp (λp q V=>by grind[jU]),by grind[iX]⟩
  ·obtain⟨w,r,u,O⟩:=h x afg b p H q;exact⟨w,r,u.imp (λp q V=>by grind[jU]),by grind[iX]⟩
theorem YQ{g:Nat->ByteArray}{x:Ex}(h:Fit x):∀b p,b<p->p<=b+(aI x).length->∃w q,bU (kO x b) g p w q∧ln x b q:=by
 induction h with
 |lab s=>
  intro b p V h2;rw[aI,if_pos rfl]at h2;exact⟨[],p,rfl,by rw[ln,if_pos rfl];grind⟩
 |many k s l hk hl A ih=>
  intro b p V h2
  have u:k≠1:=zd
  rw[dL u]at h2
  rcases hk with rfl|rfl
  ·obtain⟨w,r,O,H⟩:=Cq l (by grind) (λx Y=>⟨A x Y,ih x Y⟩) b p V h2;exact⟨w,r,O.imp (λp q A=>by rw[kO,if_neg zs,if_pos rfl];exact A),by rw[ln,if_neg zs,if_pos rfl];exact H⟩
  ·obtain⟨w,r,O,H⟩:=Cp l ih b p V h2;exact⟨w,r,O.imp (λp q A=>by rw[kO,if_neg zs,if_neg zs];exact .inl A),by rw[ln,if_neg zs,if_neg zs];exact H⟩
 |one k s x hk A ih=>
  intro b p V h2
  have u:k≠1:=zd
  have U:k≠2:=zd
  rw[dL u]at h2;obtain⟨w,r,O,H⟩:=Cp [x] (λy W=>by simp only[List.mem_singleton]at W;subst W;exact ih) b p V h2;exact⟨w,r,O.imp (λp q A=>by rw[kO,if_neg u,if_neg U];exact .inl A),by rw[ln,if_neg u,if_neg U];exact H⟩
def bl(s:cF)(cur:Do)(lab:ByteArray):Do:=az (kr s (iL s (b5 cur)) lab)
theorem Md{s:cF}(ok:Eh s){l:Do}{q:Nat}:(iL s (b5 l)).getLsbD q=true↔q∈l∧q<=s.labs.length:=by
 rw[iL,mP ok]
 have:(q:Int)∈b5 l↔q∈l:=by
  rw[b5,List.mem_map]
  grind
 simp[this]
theorem lC{s:cF}(ok:Eh s){cur:Do}{lab:ByteArray}{q:Nat}:q∈bl s cur lab ↔ ∃p,p∈cur∧p<=s.labs.length∧(s.fs.getD p 0#32).getLsbD q=true∧gz s q=lab:=by
 rw[bl,bq,nr ok]
 grind[Md,toList_inj]
theorem Jr{s:cF}(ok:Eh s){m:BitVec 32}(q:∀p,m.getLsbD p=true->p<=s.labs.length)(lab:ByteArray):bl s (az m) lab=az (kr s m lab):=by grind[bl,Ik]
theorem Rs{s:cF}(ok:Eh s){m:BitVec 32}{lab:ByteArray}:∀p,(kr s m lab).getLsbD p=true->p<=s.labs.length:=λp h=>by
 obtain⟨_,_,h,_⟩:=(nr ok).1 h;exact(ok.vU _ _ h).2
theorem BJ{s:cF}(ok:Eh s):∀(w:B0)(m:BitVec 32),(∀p,m.getLsbD p=true->p<=s.labs.length)->w.foldl (bl s) (az m)=az (w.foldl (kr s) m)
 | [],m,_=>rfl
 |l::w,m,h=>by rw[afD,afD,Jr ok h,BJ ok w _ (Rs ok)]
structure o8 where
 rows:N3
 ends:N2
 labs:B0
noncomputable def qd(x:Ex)(labs:B0):Option qk:=ri (bl (ba x)) (ba x).em (az (ba x).la) labs
def jg(labs:B0)(st:qk):o8:=⟨(da st.rows st.ends (b9 st.rows st.ends)).rows,(da st.rows st.ends (b9 st.rows st.ends)).ends,labs⟩
noncomputable def gb(x:Ex)(labs:B0):o8 ⊕ Int:=
 if aD x then match qd x labs with
  |some st=>if 32<(jg labs st).rows.length then .inr 11 else .inl (jg labs st)
  |none=> .inr 11
 else .inr 2
structure AOk(A:o8):Prop where
 pos:1<=A.rows.length
 max:A.rows.length<=32
 ends:A.ends.length=A.rows.length
 row:∀r∈A.rows,(r.map Prod.fst).Sublist A.labs∧∀p∈r,p.2<A.rows.length
theorem vv{labs:B0}{st:qk}(A:Hi labs st)(hl:st.rows.length=st.all.length):∀r∈st.rows,∀p∈r,p.2<st.rows.length:=λr q p u=>by rw[hl];exact(A.row r q).2 p u
theorem KY{labs:B0}(hn:labs.Nodup){st:qk}(u:Hi labs st):∀r∈st.rows,(r.map Prod.fst).Nodup:=λr q=>(u.row r q).1.nodup hn
theorem vu{labs:B0}(q:∀l∈labs,32∉l.data.toList){st:qk}(H:Hi labs st):tC st.rows:=λr u p A=>q _ ((H.row r u).1.subset (List.mem_map_of_mem A))
structure NS(x:Ex)(A:o8):Prop extends AOk A where
 aat:∀w,dQ A.rows A.ends 0 w=kR x w
 alive:∀s,s<A.rows.length->∃w,dQ A.rows A.ends s w=true
theorem Kj{s:cF}(ok:Eh s):∀(w:B0){cur:Do}{p q:Nat},p∈cur->p<=s.labs.length->bU (λp q=>(s.fs.getD p 0#32).getLsbD q=true) (λp=>gz s p) p w q->q∈w.foldl (bl s) cur
 | [],cur,p,q,u,H,V=>by cases V;exact u
 |l::w,cur,p,q,u,H,⟨r,A,U,O⟩=>by
  rw[afD];exact Kj ok w ((lC ok).2 ⟨p,u,H,A,U⟩) (ok.vU _ _ A).2 O
theorem LB{x:Ex}(U:aD x=true){labs:B0}(hn:labs.Nodup)(hs:∀l∈labs,32∉l.data.toList)(hm:∀l∈aI x,l∈labs){A:o8}(h:gb x labs=.inl A):NS x A:=by
 have N:=kj U;have F:=(fO U).1;rw[gb,if_pos U]at h
 split at h
 ·rename_i st V
  split at h
  ·cases h
  ·rename_i h32;simp only[Sum.inl.injEq]at h;obtain⟨W,hl,hw⟩:=DP (bl (ba x)) (ba x).em (az (ba x).la) hn V;have hz0:(st.all)[0]?=some [0]:=hw.zero
   have H:0<st.rows.length:=by grind
   have hT:=vv W hl;have hN:=KY hn W;obtain⟨hS,hpl⟩:=y9 st.rows st.ends (vu hs W) hT H W.ends;obtain⟨qo,ql,qw⟩:=FG (ends:=st.ends) hT hN H (b9 st.rows st.ends)
   have ha:∀l,bl (ba x) [] l=[]:=λl=>agJ.2 λq u=>by
    obtain⟨p,O,_⟩:=(lC N.ok).1 u;simp at O
   have hlab:∀q,1<=q->q<=(ba x).labs.length->gz (ba x) q∈labs:=λq h1 h2=>by
    rw[gz,if_pos zd];refine hm _ ?_;rw[<-N.labs];exact bK zd
   have hx:∀cur l,l∉labs->bl (ba x) cur l=[]:=λcur l hl=>agJ.2 λq u=>by
    obtain⟨p,_,_,k,rfl⟩:=(lC N.ok).1 u;obtain⟨q1,q2⟩:=N.ok.vU _ _ k
    grind
   have h0:∀cur l,0∉bl (ba x) cur l:=λcur l u=>by
    obtain⟨p,_,_,k,_⟩:=(lC N.ok).1 u
    have:=(N.ok.vU _ _ k).1;omega
   have hla:0∉az (ba x).la:=λu=>by have:=(N.ok.la _ (bq.1 u)).1;omega
   have hlen:A.rows.length=(da st.rows st.ends (b9 st.rows st.ends)).order.length:=by rw[<-h];exact ql
   have hA:∀k w,k<A.rows.length->dQ A.rows A.ends k w=dQ st.rows st.ends ((da st.rows st.ends (b9 st.rows st.ends)).order.getD k 0) w:=λk w hk=>by
    rw[<-h];exact vZ hT hS qo ql qw w zd
   have hp1:1<=A.rows.length:=by
    rw[hlen]
    have:=qo.le;rw[ql]at this
    refine Nat.one_le_iff_ne_zero.2 λe=>?_;have q0:=F6 (rows:=st.rows) (part:=b9 st.rows st.ends) (ends:=st.ends) (st.rows.length+1) (st:=q0)
    grind[da,b9,q0]
   refine⟨⟨hp1,?_,?_,λr U=>?_⟩,λw=>?_,λs hs=>?_⟩
   ·grind
   ·rw[<-h];exact qo.ends
   ·obtain⟨k,hk,rfl⟩:=List.getElem_of_mem U
    have hk':k<(da st.rows st.ends (b9 st.rows st.ends)).rows.length:=zd
    obtain⟨r1,r2⟩:=qo.row k hk'
    have e:A.rows[k]=(da st.rows st.ends (b9 st.rows st.ends)).rows.getD k []:=by
     subst h;rw[List.getD_eq_getElem?_getD,aes hk'];rfl
    have hlabs:A.labs=labs:=by rw[<-h];rfl
    rw[e,r1,hlabs,hlen];exact⟨(W.row _ (bK (qo.lt _ (bK zd)))).1,r2⟩
   ·rw[hA 0 w zd,qw.zero,Jo hl hw ha hx h0 hla, <- Ns U, <- O7 N.ok]
    have e0:([0]:Do)=az (ofM 0):=by rfl
    rw[e0,BJ N.ok w (ofM 0) (λp O=>by grind[FU])]
    congr 1
    rw[Bool.eq_iff_iff,xK,List.any_eq_true];simp[runM]
   ·rw[hlen]at hs;have hi:=qo.lt _ (bK (d:=0) hs)
    have hi':(da st.rows st.ends (b9 st.rows st.ends)).order.getD s 0<st.all.length:=zd
    obtain⟨Y,hmade⟩:=Nn (bl (ba x)) (ba x).em (az (ba x).la) V _ (afm hi');obtain⟨p,O⟩:=List.exists_mem_of_ne_nil _ Y
    have hpb:p<=(ba x).labs.length:=by
     rcases hmade with e|⟨cur,l,e⟩
     ·grind
     ·rw[e]at O;obtain⟨_,_,_,k,_⟩:=(lC N.ok).1 O;exact(N.ok.vU _ _ k).2
    obtain⟨w,q,hc,u⟩:∃w q,bU (λp q=>((ba x).fs.getD p 0#32).getLsbD q=true) (λp=>gz (ba x) p) p w q∧ln x 0 q:=by
     have up:∀p,0<p->p<=(ba x).labs.length->∃w q,bU (λp q=>((ba x).fs.getD p 0#32).getLsbD q=true) (λp=>gz (ba x) p) p w q∧ln x 0 q:=λp h1 h2=>by
      obtain⟨w,q,k1,k2⟩:=YQ (g:=λp=>gz (ba x) p) F 0 p h1 (by rw[<-N.labs];omega)
      have:=bU.stay (S:=λp=>p≠0) (F:=λp q=>((ba x).fs.getD p 0#32).getLsbD q=true) (λp q O hf=>⟨(N.vU p q O).2 hf,by have:=(fM x hf).2;omega⟩) zd k1
      grind
     by_cases e:p=0
     ·subst e;obtain⟨f,hf⟩:=E9 F 0;have hfr:=jB x hf;obtain⟨w,q,k1,k2⟩:=up f zd (by rw[N.labs];omega);exact⟨_::w,q,⟨f,(N.fst f).2 hf,rfl,k1⟩,k2⟩
     grind
    refine⟨w,?_⟩;rw[hA s w zd];exact Nl hl hw ha hx w (aes hi') Y (Kj N.ok w O hpb hc) (bq.2 ((N.Bd q).2 u))
 ·cases h
def OB:Go.Shelf.Ren:=⟨fun|169=>152|n=>n,fun|70=>228|9=>9|0=>0|72=>231|37=>229|127=>278|3=>3|5=>5|n=>n,λn=>n⟩
theorem Ta:Lays.n169 prog OB:={
 mixed:=zo
 f169:=func152
 t0:=zo
 a0:=λw=>zo
 z0:=λw=>zo
 v0:=λw=>zo
 t3:=zo
 a3:=λw=>zo
 z3:=λw=>zo
 v3:=λw=>zo
 t9:=zo
 a9:=λw=>zo
 z9:=λw=>zo
 v9:=λw=>zo
 t37:=zo
 a37:=λw=>zo
 z37:=λw=>zo
 v37:=λw=>zo
 t70:=zo
 a70:=λw=>zo
 z70:=λw=>zo
 v70:=λw=>zo
 t72:=zo
 a72:=λw=>zo
 z72:=λw=>zo
 v72:=λw=>zo
 t127:=zo
 a127:=λw=>zo
 z127:=λw=>zo
 v127:=λw=>by kernel_rfl}
def Kn:Go.Shelf.Ren:=⟨fun|171=>151|243=>199|246=>219|283=>225|284=>226|285=>227|286=>228|129=>172|317=>233|318=>234|319=>235|320=>236|337=>214|338=>237|n=>n,fun|3=>3|9=>9|2=>2|4=>4|171=>303|0=>0|53=>256|37=>229|5=>5|173=>305|212=>311|51=>184|20=>20|213=>312|46=>212|232=>301|233=>313|n=>n,fun|17=>1|18=>0|19=>2|n=>n⟩
theorem A7:Lays.n171 prog Kn:={
 mixed:=zo
 f129:=func172
 f171:=func151
 f243:=func199
 f246:=func219
 f283:=func225
 f284:=func226
 f285:=func227
 f286:=func228
 f317:=func233
 f318:=func234
 f319:=func235
 f320:=func236
 f337:=func214
 f338:=func237
 t0:=zo
 a0:=λw=>zo
 z0:=λw=>zo
 v0:=λw=>zo
 t2:=zo
 a2:=λw=>zo
 z2:=λw=>zo
 v2:=λw=>zo
 t3:=zo
 a3:=λw=>zo
 z3:=λw=>zo
 v3:=λw=>zo
 t4:=zo
 a4:=λw=>zo
 z4:=λw=>zo
 v4:=λw=>zo
 t5:=zo
 a5:=λw=>zo
 z5:=λw=>zo
 v5:=λw=>zo
 t9:=zo
 a9:=λw=>zo
 z9:=λw=>zo
 v9:=λw=>zo
 t20:=zo
 a20:=λw=>zo
 z20:=λw=>zo
 v20:=λw=>zo
 t37:=zo
 a37:=λw=>zo
 z37:=λw=>zo
 v37:=λw=>zo
 t46:=zo
 a46:=λw=>zo
 z46:=λw=>zo
 v46:=λw=>zo
 t51:=zo
 a51:=λw=>zo
 z51:=λw=>zo
 v51:=λw=>zo
 t53:=zo
 a53:=λw=>zo
 z53:=λw=>zo
 v53:=λw=>zo
 t171:=zo
 a171:=λw=>zo
 z171:=λw=>zo
 v171:=λw=>zo
 t173:=zo
 a173:=λw=>zo
 z173:=λw=>zo
 v173:=λw=>zo
 t212:=zo
 a212:=λw=>zo
 z212:=λw=>zo
 v212:=λw=>zo
 t213:=zo
 a213:=λw=>zo
 z213:=λw=>zo
 t232:=zo
 a232:=λw=>zo
 z232:=λw=>zo
 v232:=λw=>zo
 t233:=zo
 a233:=λw=>zo
 z233:=λw=>zo
 v233:=λw=>zo
 g17:=zo
 g18:=zo
 g19:=by kernel_rfl}
theorem Pz:LaysM.n171 prog Kn:={A7 with
 i0:=zo
 i2:=zo
 i3:=zo
 i4:=zo
 i5:=zo
 i9:=zo
 i20:=zo
 i37:=zo
 i46:=zo
 i51:=zo
 i53:=zo
 i171:=zo
 i173:=zo
 i212:=zo
 i232:=zo
 i233:=zo
 m17:=zo
 m18:=zo
 m19:=by kernel_rfl}
theorem Ox:(prog.info? 231).map (·.size)=some 2:=zo
theorem Vo:liesAt prog prog.depth 231 (2 / prog.cellsOf 231) 0 231 1=true:=zo
theorem Vn:(prog.info? 5).map (λi=>(i.zero,i.size,i.bytes))=some (some (.int .u8 0),1,1):=zo
theorem Wf:Builder.Extra prog OB:={sizeBuilder:=Ox,liesBuilder:=Vo,t5:=zo,a5:=λw=>zo,z5:=λw=>zo,v5:=λw=>zo,infoByte:=Vn,cellsByte:=zo,sizeByte:=zo,neB5:=by decide}
theorem uBp:prog.underlying 228=some (.pointer 231):=zo
theorem uUp:prog.underlying 292=some .unsafePointer:=zo
theorem zX(b:Nat)(w:World)(O:w.cell? ⟨b,0,none⟩=some (.pointer none))(q:w.shape? b=some (231,2))(H:w.frozen? ⟨b,0,none⟩=false) :
  Calls prog 198 #[.pointer (some ⟨b,0,none⟩)] w λe w'=>e=.returned (.tuple #[])∧w'=w.setCell ⟨b,0,none⟩ (.pointer (some ⟨b,0,none⟩)):=by
 obtain⟨j,u,A⟩:=aeN.1 Ox
 go_enter func198,ntmps198
 go_wp2
 rw[Lib.run_to_unsafe w ⟨b,0,none⟩ uBp uUp u zd q (Nat.zero_lt_succ 1)];simp only[Result.andThen];rw[Oper.upon_value]
 go_wp2
 rw[run_callFunc_extern func218 zo zo zo (e:=Extern.AbiNoEscape.same) zo];rw[Lib.run_noEscape];simp only[Result.andThen];rw[Oper.upon_value]
 go_wp2
 rw[Lib.run_from_unsafe w ⟨b,0,none⟩ uUp uBp u q Vo];simp only[Result.andThen];rw[Oper.upon_value]
 go_wp2
 go_end0
 grind
theorem Cs(b:Nat)(w:World)(u:w.cell? ⟨b,0,none⟩=some (.pointer (some ⟨b,0,none⟩))) :
  Calls prog 198 #[.pointer (some ⟨b,0,none⟩)] w λe w'=>e=.returned (.tuple #[])∧w'=w:=by
 obtain⟨j,q,_⟩:=aeN.1 Ox
 go_enter func198,ntmps198
 go_wp2
 rw[Lib.run_neq_ptr_same w _ uBp q]
 go_wp2
 go_end0
 grind
abbrev Yw(B b:Nat)(bs:Id)(w:World):Prop:=Lib.IsBuilderF 231 5 B b bs w
theorem zW(B b:Nat)(bs:Id)(w:World)(h:Yw B b bs w) :
  Calls prog 198 #[.pointer (some ⟨b,0,none⟩)] w λe w'=>e=.returned (.tuple #[])∧Lib.BuilderAtF 231 5 B b (.pointer (some ⟨b,0,none⟩)) bs w'∧Below B w w':=by
 rcases h with h|h
 ·refine(zX b w h.cell0 h.shape h.frozen0).mono ?_;rintro e w' ⟨rfl,rfl⟩;exact⟨rfl,h.used _,(Below.refl B w).setCell (p:=⟨b,0,none⟩) h.1 _⟩
 ·refine(Cs b w h.cell0).mono ?_
  grind[Below.refl]
theorem Xq:prog.underlying 229=some (.slice 5):=zo
theorem aay:prog.underlying 9=some .string:=zo
theorem JC(B b:Nat)(bs:Id)(s:ByteArray)(w:World)(h:Yw B b bs w)(hlen:bs.length+s.size<=140737488355328)(hBw:B<=w.heap.size) :
  Calls prog 150 #[.pointer (some ⟨b,0,none⟩),.string s] w λe w'=>e=.returned (.tuple #[.int .i64 s.size,.nilIface])∧Yw B b (bs++Lib.strCells s) w'∧Below B w w':=by
 obtain⟨i0,hi,W,V,U⟩:=info_parts Vn
 go_enter func150,ntmps150
 go_wp2_with fail
 refine(zW B b bs _ h).mono ?_;rintro e O ⟨rfl,h1,hb1⟩;obtain⟨hB,v,q,A,Y⟩:=h1;have hlt:b<O.heap.size:=(Array.getElem?_eq_some_iff.1 q).1
 have c0:O.cell? ⟨b,0,none⟩=some (.pointer (some ⟨b,0,none⟩)):=by rw[Lib.cell_of_heap q];rfl
 have c1:O.cell? ⟨b,1,none⟩=some v:=by rw[Lib.cell_of_heap q];rfl
 go_wp2_with (at_builtin;refine Lib.wpList_append_own_stringF _ rfl _ _ 229 9 rfl B 5 i0 Xq aay hi W V U _ _ _ rfl A s rfl ?c3 ?c4 ?c5 ?_)
 case c3=>grind[maxLen]
 case c4=>omega
 case c5=>omega
 intro v' H hown' hgrow _;have u:H.heap[b]?=some (.cells #[.pointer (some ⟨b,0,none⟩),v] 231 (0,0)):=(hgrow.block b hlt (λe=>Y e.symm)).trans q
 have d0:H.cell? ⟨b,0,none⟩=some (.pointer (some ⟨b,0,none⟩)):=by rw[Lib.cell_of_heap u];rfl
 have d1:H.cell? ⟨b,1,none⟩=some v:=by rw[Lib.cell_of_heap u];rfl
 have f1:H.frozen? ⟨b,1,none⟩=false:=Lib.frozen_of_heap u 1
 obtain⟨ao,n',cap,rfl⟩:∃ao n' cap,v' = .slice ao n' cap:=by
  rcases hown'.2 with⟨hv,_⟩|⟨g,cap,cur,fz,hv,_⟩<;>exact⟨_,_,_,hv⟩
 go_wp2
 go_ret2
 refine⟨rfl,.inr (Lib.BuilderAtF.put (T:=231) (e:=5) hB u (bs':=bs++Lib.strCells s) (by grind[Lib.strCells_length]) zs),?_⟩;exact(hb1.grown hgrow zd (λk hk=>(A.lt k hk).1)).setCell (p:=⟨b,1,none⟩) hB _
def YC(n:Nat)(cs:Id):Prop:=cs=[.int .i64 (n:Nat)]
abbrev N8(w:World)(l:Do)(v:Value):Prop:=jX w 1 YC l v
theorem M5{w:World}{xs:Do}{p:Option Addr}{n cap:Nat}(h:N8 w xs (.slice p n cap)){k:Nat}(H:k<xs.length) :
  ∃b o,p=some ⟨b,o,none⟩∧w.cell? ⟨b,o+k,none⟩=some (.int .i64 (xs[k]:Nat)):=by
 obtain⟨b,o,cs,A,u,q⟩:=jX.at h H;subst u;rw[Nat.mul_one]at q;replace q:=mg q;exact⟨b,o,A,by simpa using q 0 _ rfl⟩
theorem Ms(l:Do)(n:Nat):nY (l++[n])=nY l++(Lib.decDigits n++[32]):=by simp[nY]
theorem PF(l:Do)(q:∀n∈l,n<1000):(nY l).length<=4*l.length:=by
 induction l with
 |nil=>simp[nY]
 |cons a l ih=>
  grind[xY,afg,aeX,nY,aem,List.length_cons,List.length_nil]
theorem TN(l:Do)(V:∀n∈l,n<100)(hl:l.length<=1000000)(v:Value)(w:World)(U:N8 w l v):Calls prog 118 #[v] w (Hh w (.string (lJ l))):=by
 obtain⟨p,c,rfl,hc1,H⟩:=U.shape;unfold maxLen at H;have H1:=Lib.hid U;have HS:=Lib.hid V;clear U V
 go_enter func118,ntmps118
 go_wp2_with fail
 go_loopw [8] (λi wr=>∃k:Nat,k<=l.length∧i=.int .i64 k∧Below w.heap.size w wr∧Yw w.heap.size w.heap.size (Lib.byteCells (nY (l.take k))) wr) (λi _=>l.length-(intOf i).toNat)
 case atStart=>exact⟨0,Nat.zero_le _,rfl,(Below.refl _ w).alloc (Nat.le_refl _) _,by rw[List.take_zero];exact Lib.IsBuilderF.of (Lib.fresh_isBuilder 231 5 w)⟩
 case round=>
  obtain⟨k,hk,rfl,W,Y⟩:=hrel;have HB:=Lib.hid W;have HI:=Lib.hid Y;clear W Y
  by_cases q:k<l.length
  ·obtain⟨b1,o1,rfl,a0⟩:=M5 (jX.below H1.out HB.out) q;have CI:=Lib.hid (Any.strconv_Itoa_small A7 l[k] (HS.out _ (afm q)) wr)
   have hk1:(nY (l.take k)).length<=4*k:=by
    have:=PF (l.take k) (λn hn=>by have:=HS.out n (List.mem_of_mem_take hn);omega)
    grind
   have hk2:=xY l[k] (by have:=HS.out _ (afm q);omega)
   have CW:=Lib.hid (JC w.heap.size w.heap.size (Lib.byteCells (nY (l.take k))) (⟨(Lib.decDigits l[k]).toArray⟩++⟨#[32]⟩) wr HI.out (by
    rw[Lib.byteCells_length]
    have:(⟨(Lib.decDigits l[k]).toArray⟩++⟨#[32]⟩:ByteArray).size=(Lib.decDigits l[k]).length+1:=by simp[ByteArray.size]
    omega) HB.out.size)
   go_wp2_with fail
   refine CI.out.mono ?_;rintro e w1 ⟨rfl,rfl⟩
   go_wp2_with fail
   refine CW.out.mono ?_;rintro e w2 ⟨rfl,hI2,u⟩
   go_wp2_with fail
   go_roundw
   case rel=>
    refine⟨k+1,zd,by go_num,HB.out.trans u,?_⟩
    have e1:Lib.byteCells (nY (l.take (k+1)))=Lib.byteCells (nY (l.take k))++Lib.strCells (⟨(Lib.decDigits l[k]).toArray⟩++⟨#[32]⟩):=by
     rw[List.take_succ_eq_append_getElem q,Ms,Lib.byteCells_append,Lib.strCells_eq];simp
    grind
   case measure=>grind[intOf]
  ·have A:k=l.length:=zd
   subst A
   have O:Yw w.heap.size w.heap.size (Lib.byteCells (nY l)) wr:=by have:=HI.out;grind
   have CT:=Lib.hid (Any.Builder_String_any_k Ta Wf w.heap.size w.heap.size (nY l) wr O HB.out.size)
   go_wp2_with fail
   refine CT.out.mono ?_;rintro e w1 ⟨rfl,_,u,_⟩
   go_wp2_with fail
   go_ret
   exact⟨rfl,HB.out.trans u⟩
theorem Vs(l:Do)(A:∀n∈l,n<100)(hl:l.length<=1000000):aj prog 118 [.aA 1 (aT l) l.length] (.v (.string (lJ l))):=
 .vg zo (by grind[aQ,AV.wf,jt,Bool.and_self]) (λD nu w vargs q=>by
  obtain⟨x,rfl,u⟩:=ic q
  exact TN l A hl x w (RA.Zt u (λx _ cs H=>Q1 (vs:=[.int .i64 (x:Nat)]) H)))
theorem PA(n:Nat)(h:n<1000000):aj prog 151 [.v (.int .i64 (n:Nat))] (.v (.string ⟨(Lib.decDigits n).toArray⟩)):=by
 refine⟨⟨rfl,rfl⟩,zo,λD nu w vargs u H=>?_⟩;obtain⟨x,rfl,O⟩:=ic H;obtain rfl:=O.di;obtain⟨⟨t,V⟩,_⟩:=u.gl 1 _ _ rfl
 have q:Lib.TabIs prog w "internal/strconv.uint64pow10" .u64 Lib.pow10Tab:=by
  have U:prog.globalNamed "internal/strconv.uint64pow10" = some 1:=zo
  simp only[Lib.TabIs,World.var?,U,Option.bind_some,V]
  rfl
 refine(Any.strconv_Itoa Pz n zd zd w q).mono ?_;rintro e w' ⟨rfl,k,os,rfl⟩
 have W:Lib.itoa (n:Int)=Lib.decDigits n:=by rw[Lib.itoa,if_neg zd];rfl
 rw[W];have A:Below w.heap.size w (Go.Sort.grow (w.drewN k) os):=Go.Lib.below_grow _ w (Nat.le_refl _) k os;exact⟨_,nu,[],_,rfl,aH A,u.below A,.v _,rfl,rfl⟩
end Go.Proofs.YtlhhccmopfamhaaGreatDoor
