/- texts of one claim, one behind the other. -/
import Derived.Test.YtlhhccmopfamhaaGreatDoorWHeapP
import Derived.Test.YtlhhccmopfamhaaGreatDoorWDfaQ
import Derived.Shelf.SlIter.Sorted
import Derived.Shelf.SortM.Plain
import Derived.Shelf.SortM.SortNone
import Derived.Test.YtlhhccmopfamhaaGreatDoorWRelG
set_option linter.unusedSimpArgs false
set_option linter.unusedVariables false
set_option maxRecDepth 100000
set_option maxHeartbeats 16000000
open Bool renaming and_self -> UM, not_eq_eq_eq_not -> UR, and_true -> Um, true_and -> Us, or_eq_true -> Uk
open List renaming cons_append -> UP, getElem?_eq_getElem -> Tn, getElem?_map -> Tq, getElem_map -> Vs, map_map -> Vz, pairwise_map -> Vk, length_map -> T1, getElem?_cons_zero -> Ud, getD_eq_getElem?_getD -> T3, replicate_succ -> UN, replicate_zero -> UO, mem_cons_of_mem -> T8, map_cons -> Vd, pairwise_iff_getElem -> Vr, length_append -> Tb, length_cons -> Tc, length_nil -> S6, nil_append -> UQ, foldl_cons -> UG, foldl_nil -> UH, take_succ_eq_append_getElem -> VB, map_nil -> Vq, take_append_drop -> VD, drop_eq_getElem_cons -> US, getElem_mem -> Uy
open Option.some renaming injEq -> Ti
open Classical renaming byContradiction -> VA
open List.cons renaming injEq -> Vi
open Nat renaming lt_or_ge -> S9
open BitVec renaming getLsbD_or -> VC
open Int renaming ofNat_lt -> VE
namespace Go.Proofs.YtlhhccmopfamhaaGreatDoor
open Go.RowKit
section
def xg:Go.Shelf.Ren:=⟨fun|7=>159|10=>201|n=>n,fun|23=>164|26=>9|3=>3|28=>244|0=>0|27=>243|33=>157|4=>4|n=>n,fun n=>n⟩
theorem s6:SlLaysZ.n7 Tryz.prog xg:={
 mixed:=by kernel_rfl
 f7:=⟨Tryz.f159.name,by decide,Tryz.func159⟩
 f10:=⟨Tryz.f201.name,by decide,Tryz.func201⟩
 t0:=by kernel_rfl
 a0:=fun w=>by kernel_rfl
 z0:=fun w=>by kernel_rfl
 v0:=fun w=>by kernel_rfl
 t4:=by kernel_rfl
 a4:=fun w=>by kernel_rfl
 z4:=fun w=>by kernel_rfl
 v4:=fun w=>by kernel_rfl
 t23:=by kernel_rfl
 a23:=fun w=>by kernel_rfl
 z23:=fun w=>by kernel_rfl
 v23:=fun w=>by kernel_rfl
 t26:=by kernel_rfl
 a26:=fun w=>by kernel_rfl
 z26:=fun w=>by kernel_rfl
 v26:=fun w=>by kernel_rfl
 t27:=by kernel_rfl
 a27:=fun w=>by kernel_rfl
 z27:=fun w=>by kernel_rfl
 v27:=fun w=>by kernel_rfl
 t28:=by kernel_rfl
 a28:=fun w=>by kernel_rfl
 z28:=fun w=>by kernel_rfl
 v28:=fun w=>by kernel_rfl
 t33:=by kernel_rfl
 a33:=fun w=>by kernel_rfl
 z33:=fun w=>by kernel_rfl
 v33:=fun w=>by kernel_rfl }
def rC:Go.Shelf.Ren:=⟨fun|6=>158|8=>200|9=>115|11=>220|13=>135|12=>148|23=>171|24=>172|14=>189|15=>190|16=>191|17=>192|18=>193|19=>194|20=>195|21=>196|22=>197|25=>215|26=>204|27=>205|28=>216|29=>217|30=>96|31=>224|n=>n,fun|26=>9|28=>244|24=>55|0=>0|3=>3|37=>212|48=>184|50=>256|4=>4|40=>249|39=>248|45=>105|5=>5|9=>9|51=>279|55=>283|57=>296|58=>297|33=>157|n=>n,fun n=>n⟩
theorem xT:SlLaysZ.n6 Tryz.prog rC:={
 mixed:=by kernel_rfl
 f6:=⟨Tryz.f158.name,by decide,Tryz.func158⟩
 f8:=⟨Tryz.f200.name,by decide,Tryz.func200⟩
 f11:=⟨Tryz.f220.name,by decide,Tryz.func220⟩
 t0:=by kernel_rfl
 a0:=fun w=>by kernel_rfl
 z0:=fun w=>by kernel_rfl
 v0:=fun w=>by kernel_rfl
 t24:=by kernel_rfl
 a24:=fun w=>by kernel_rfl
 z24:=fun w=>by kernel_rfl
 v24:=fun w=>by kernel_rfl
 t26:=by kernel_rfl
 a26:=fun w=>by kernel_rfl
 z26:=fun w=>by kernel_rfl
 v26:=fun w=>by kernel_rfl
 t28:=by kernel_rfl
 a28:=fun w=>by kernel_rfl
 z28:=fun w=>by kernel_rfl
 v28:=fun w=>by kernel_rfl
 i26:=by kernel_rfl }
def GD:Go.Shelf.Ren:=⟨fun|6=>115|8=>135|9=>148|19=>171|20=>172|21=>189|22=>190|23=>191|24=>192|25=>193|26=>194|27=>195|28=>196|29=>197|36=>215|31=>204|32=>205|37=>216|38=>217|39=>96|41=>224|n=>n,fun|27=>55|29=>9|3=>3|32=>212|26=>55|0=>0|44=>184|46=>256|4=>4|36=>249|35=>248|41=>105|5=>5|9=>9|53=>279|57=>283|63=>296|64=>297|n=>n,fun n=>n⟩
theorem lk:SlLaysM.n6 Tryz.prog GD:={
 mixed:=by kernel_rfl
 f6:=⟨Tryz.f115.name,by decide,Tryz.func115⟩
 f8:=Tryz.func135
 f9:=⟨Tryz.f148.name,by decide,Tryz.func148⟩
 f19:=Tryz.func171
 f20:=Tryz.func172
 f21:=⟨Tryz.f189.name,by decide,Tryz.func189⟩
 f22:=⟨Tryz.f190.name,by decide,Tryz.func190⟩
 f23:=⟨Tryz.f191.name,by decide,Tryz.func191⟩
 f24:=⟨Tryz.f192.name,by decide,Tryz.func192⟩
 f25:=⟨Tryz.f193.name,by decide,Tryz.func193⟩
 f26:=⟨Tryz.f194.name,by decide,Tryz.func194⟩
 f27:=⟨Tryz.f195.name,by decide,Tryz.func195⟩
 f28:=⟨Tryz.f196.name,by decide,Tryz.func196⟩
 f29:=⟨Tryz.f197.name,by decide,Tryz.func197⟩
 f31:=Tryz.func204
 f32:=Tryz.func205
 f36:=⟨Tryz.f215.name,by decide,Tryz.func215⟩
 f37:=⟨Tryz.f216.name,by decide,Tryz.func216⟩
 f38:=⟨Tryz.f217.name,by decide,Tryz.func217⟩
 f39:=⟨Tryz.f96.name,by decide,Tryz.func96⟩
 f41:=⟨Tryz.f224.name,by decide,Tryz.func224⟩
 t0:=by kernel_rfl
 a0:=fun w=>by kernel_rfl
 z0:=fun w=>by kernel_rfl
 v0:=fun w=>by kernel_rfl
 t3:=by kernel_rfl
 a3:=fun w=>by kernel_rfl
 z3:=fun w=>by kernel_rfl
 v3:=fun w=>by kernel_rfl
 t4:=by kernel_rfl
 a4:=fun w=>by kernel_rfl
 z4:=fun w=>by kernel_rfl
 v4:=fun w=>by kernel_rfl
 t5:=by kernel_rfl
 a5:=fun w=>by kernel_rfl
 z5:=fun w=>by kernel_rfl
 v5:=fun w=>by kernel_rfl
 t9:=by kernel_rfl
 a9:=fun w=>by kernel_rfl
 z9:=fun w=>by kernel_rfl
 v9:=fun w=>by kernel_rfl
 t26:=by kernel_rfl
 a26:=fun w=>by kernel_rfl
 z26:=fun w=>by kernel_rfl
 v26:=fun w=>by kernel_rfl
 t27:=by kernel_rfl
 a27:=fun w=>by kernel_rfl
 z27:=fun w=>by kernel_rfl
 v27:=fun w=>by kernel_rfl
 t29:=by kernel_rfl
 a29:=fun w=>by kernel_rfl
 z29:=fun w=>by kernel_rfl
 v29:=fun w=>by kernel_rfl
 t32:=by kernel_rfl
 a32:=fun w=>by kernel_rfl
 z32:=fun w=>by kernel_rfl
 v32:=fun w=>by kernel_rfl
 t35:=by kernel_rfl
 a35:=fun w=>by kernel_rfl
 z35:=fun w=>by kernel_rfl
 v35:=fun w=>by kernel_rfl
 t36:=by kernel_rfl
 a36:=fun w=>by kernel_rfl
 z36:=fun w=>by kernel_rfl
 v36:=fun w=>by kernel_rfl
 t41:=by kernel_rfl
 a41:=fun w=>by kernel_rfl
 z41:=fun w=>by kernel_rfl
 v41:=fun w=>by kernel_rfl
 t44:=by kernel_rfl
 a44:=fun w=>by kernel_rfl
 z44:=fun w=>by kernel_rfl
 v44:=fun w=>by kernel_rfl
 t46:=by kernel_rfl
 a46:=fun w=>by kernel_rfl
 z46:=fun w=>by kernel_rfl
 v46:=fun w=>by kernel_rfl
 t53:=by kernel_rfl
 a53:=fun w=>by kernel_rfl
 z53:=fun w=>by kernel_rfl
 v53:=fun w=>by kernel_rfl
 t57:=by kernel_rfl
 a57:=fun w=>by kernel_rfl
 z57:=fun w=>by kernel_rfl
 v57:=fun w=>by kernel_rfl
 t63:=by kernel_rfl
 a63:=fun w=>by kernel_rfl
 z63:=fun w=>by kernel_rfl
 v63:=fun w=>by kernel_rfl
 t64:=by kernel_rfl
 a64:=fun w=>by kernel_rfl
 z64:=fun w=>by kernel_rfl
 v64:=fun w=>by kernel_rfl }
def cf (r:a7):List (List AV):=r.map (fun p=>[.v (.string p.1), .v (.int .i64 (p.2:Nat))])
theorem FL (r:a7):(cf r).length=r.length:=by simp [cf]
@[go_sem] theorem pP (n:Nat) (r:a7):bQ n (cf r)=true:=bg _ (fun p=>rfl) _
theorem ug (s:ByteArray): ∀r:a7,jQ .string (.string s) (cf r)=some ((look r s).map (fun n=> .v (.int .i64 (n:Nat))))
 | []=>rfl
 | p :: l=>by
  have ih:=ug s l;simp only [cf,List.map_cons,jQ];rw [if_pos (show cm .string (.string p.1)=true from rfl)]
  by_cases h:cU (.string s) (.string p.1)=true
  ·have h':dp s p.1=true:=h;rw [if_pos h];simp [look,h']
  ·have h':dp s p.1=false:=by
    cases hh:dp s p.1
    ·rfl
    ·exact absurd hh h
   rw [if_neg h];simp only [cf] at ih;rw [ih];simp [look,h']
theorem nE (s:ByteArray) (n:Nat): ∀r:a7,look r s=none->jf .string (.string s) (.v (.int .i64 (n:Nat))) (cf r)=some (cf (r++[(s,n)]))
 | [],_=>rfl
 | p :: l,hn=>by
  simp only [cf,List.map_cons,jf,UP];rw [if_pos (show cm .string (.string p.1)=true from rfl)]
  by_cases h:cU (.string s) (.string p.1)=true
  ·have h':dp s p.1=true:=h;simp [look,h'] at hn
  ·have h':dp s p.1=false:=by
    cases hh:dp s p.1
    ·rfl
    ·exact absurd hh h
   have ih:=nE s n l (by simpa [look,h'] using hn);rw [if_neg h];simp only [cf] at ih;rw [ih];rfl
@[go_sem] theorem nn (n:Nat) (rows:List a7):bQ n (rows.map (fun r=>[AV.mp (cf r)]))=true:=bg _ (fun r=>by simp only [ba,AV.wf,pP,UM]) _
@[go_sem] theorem nk (n:Nat) (ends:List Bool):bQ n (ends.map (fun b=>[AV.v (.bool b)]))=true:=bg _ (fun r=>rfl) _
def gV (rows:List a7) (ends:List Bool):List AV:=[.aI 1 (rows.map (fun r=>[.mp (cf r)])) rows.length, .aI 1 (ends.map (fun b=>[.v (.bool b)])) ends.length]
section
open Go.Maps Go.Sort Go.WideElems
theorem Oz:Tryz.prog.underlying 9=some .string:=by kernel_rfl
def Er (_:Value):Option (DataW Unit×List MemPlace):=some (.lit (.bool true),[])
def oY (r:a7):List (List UInt8):=r.map (fun p=>p.1.data.toList)
theorem Lr {e:MapEntry} {s:ByteArray} (hk:e.key = .string s) (hs:s.size<=maxLen):rd Tryz.prog 9 Er e=some (.string s.data.toList, .lit (.bool true)):=by
 unfold WideElems.rd;rw [hk,Go.WideMaps.keyOf_string_mk Oz hs];rfl
theorem I0 {D:Nat->Prop} {nu:Nat->Nat->Value} {o:List (Option aa)} {w:World} {r:a7} {x:Value} (h:RA D nu o w (.mp (cf r)) x) (hs: ∀p∈r,p.1.size<=maxLen) (hn:(r.map Prod.fst).Nodup) (hl:r.length<=1000000) :
  ∃b D0,x = .map (some b)∧b<w.heap.size∧w.ownsMap Tryz.prog 9 Er b r.length D0∧(strKeys D0).Perm (oY r)∧Maps.size D0=r.length:=by
 cases h with
 | mp _ b es cl h1 h2 h3 h4 h5 h6 h7=>
 have hlen:es.size=r.length:=by rw [h3,FL]
 have hget: ∀(i:Nat) (hi:i<es.toList.length),es[i]? = some es.toList[i]:=fun i hi=>by rw [<-Array.getElem?_toList];exact Tn hi
 have hk: ∀(i:Nat) (hi:i<es.toList.length) (hi':i<r.length),(es.toList[i]).key=Value.string r[i].1:=fun i hi hi'=>by
  have hrow:(cf r)[i]? = some [.v (.string r[i].1), .v (.int .i64 (r[i].2:Nat))]:=by rw [cf,Tq,Tn hi'];rfl
  exact (h7 i 0 _ _ _ hrow rfl (hget i hi)).plain
 have hkeys:es.toList.map (fun e=>e.key)=r.map (fun p=>Value.string p.1):=List.ext_getElem (by simp [hlen]) fun i k1 k2=>by
  rw [Vs,Vs];exact hk i (by simpa using k1) (by simpa using k2)
 have hrd: ∀(i:Nat) (hi:i<es.toList.length) (hi':i<r.length),rd Tryz.prog 9 Er es.toList[i]=some (.string r[i].1.data.toList, .lit (.bool true)):=fun i hi hi'=>Lr (hk i hi hi') (hs _ (List.getElem_mem hi'))
 refine ⟨b,_,rfl,h1.1,⟨es,cl,h2,⟨by unfold maxLen;omega,⟨?_, ?_, ?_⟩, ?_⟩,by omega,rfl⟩, ?_, ?_⟩
 ·intro e he;obtain ⟨i,hi,rfl⟩:=List.getElem_of_mem he;exact h5 i _ (hget i hi)
 ·rw [List.Nodup,List.pairwise_iff_getElem];intro i j hi hj hij;rw [Vs,Vs]
  have:=h6 i j _ _ (hget i (by simpa using hi)) (hget j (by simpa using hj)) hij
  omega
 ·have e:es.toList.map (fun x=>x.key)=(r.map Prod.fst).map Value.string:=by rw [hkeys,Vz];rfl
  rw [e,List.Nodup,Vk];exact hn.imp fun hne e=>hne (by cases e;rfl)
 ·intro e he;obtain ⟨i,hi,rfl⟩:=List.getElem_of_mem he;exact ⟨_,hrd i hi (by simpa [hlen] using hi)⟩
 ·rw [strKeys];refine ((WideShapes.sorted_perm _).map _).trans (List.Perm.of_eq ?_);rw [Vz];refine List.ext_getElem (by simp [oY,hlen]) fun i k1 k2=> ?_
  have hi:i<es.toList.length:=by simpa using k1
  simp only [oY,Vs,Function.comp];rw [rg_of (hrd i hi (by simpa [hlen] using hi))];rfl
 ·show (List.foldr DataW.insert [] _).length=_;rw [(WideShapes.sorted_perm _).length_eq,T1];simp [hlen]
def mn (l:List ByteArray):Prop:=l.Pairwise (fun a b=>a.data.toList<b.data.toList)
theorem CO {r:a7} (h:mn (r.map Prod.fst)):(oY r).mergeSort (fun x y=>decide (x<=y))=oY r:=by
 refine List.mergeSort_of_pairwise ?_;rw [oY,Vk];rw [mn,Vk] at h;exact h.imp fun hh=>decide_eq_true (List.le_of_lt hh)
theorem pN {l:List ByteArray} (h:mn l):l.Nodup:=h.imp fun {a b} hh e=>by subst e;exact absurd hh (List.lt_irrefl _)
end
def Nn (_:Nat->Prop) (_:World) (x:Value):Prop:= ∃b,x = .pointer (some ⟨b,0,none⟩)
def xe (r:a7):AV:= .fn 201 [] [.fp Nn (.vp [.mp (cf r)])]
@[go_sem] theorem yo (n:Nat) (r:a7):(xe r).wf n=true:=by simp only [xe,AV.wf,ba,pP,UM]
theorem IS (r:a7):af Tryz.prog 159 [.mp (cf r)] (xe r):=by
 refine ⟨⟨by simp only [ba,AV.wf,pP,UM],yo 0 r⟩,by kernel_rfl,fun D nu w vargs hro hra=> ?_⟩;obtain ⟨x,rfl,hx⟩:=dP hra
 obtain ⟨b,rfl⟩: ∃b,x = .map (some b):=by cases hx;exact ⟨_,rfl⟩
 refine ((callsIn_wide (n:=5)).1 (AnyZ.keys_in s6 Fence.wide 5 trivial rfl (some b) w)).mono ?_;rintro e w' ⟨rfl,rfl⟩;have hb:Below w.heap.size w (w.alloc (.cells #[.map (some b)] 164)):=(Below.refl _ _).alloc (Nat.le_refl _) _;have hz:Fz D nu [] (w.alloc (.cells #[.map (some b)] 164)) w.heap.size:=⟨by simp,bb _ _,hro.up _ (Nat.le_refl _)⟩;refine ⟨_,nu,[],xe r,rfl,ak hb,hro.below hb, ?_,rfl,rfl⟩;refine .fn _ _ _ _ _ rfl rfl (fun i c x h=>by simp at h) (fun i c y h1 h2=> ?_)
 cases i with
 | succ i=>simp at h1
 | zero=>
  simp only [Ud,Ti] at h1;simp at h2;subst h1;subst h2
  refine .fp _ _ _ (fun _=>False) rfl (fun b h=>h.elim) (fun b h=>h.elim) (fun w' _=>⟨_,rfl⟩) (.vp _ _ 0 (fun _=> .map (some b)) hz (fun j c hc=> ?_) (fun j c hc=> ?_) (fun j c hc=>rfl))
  ·cases j with
   | succ j=>simp at hc
   | zero=>
    have h:=dJ w (.cells #[.map (some b)] 164);exact (qg h 0).trans rfl
  ·cases j with
   | succ j=>simp at hc
   | zero=>
    simp only [Ud,Ti] at hc;subst hc;exact hx.mono (ak hb) (fun _ _ h=>h)
theorem LB (m:Nat):AnyZ.SortsIn Tryz.prog rC Fence.wide m:=
 ⟨fun cZ off cap ss W hH hblk hsz=>callsIn_wide.2 (AnyM.slices_Sort_string lk cZ off cap ss W hH hblk hsz),
  fun p cap W=>callsIn_wide.2 (AnyM.slices_Sort_string_none lk p cap W)⟩
theorem DE (r:a7) (hs: ∀p∈r,p.1.size<=maxLen) (hr:mn (r.map Prod.fst)) (hl:r.length<=1000000):af Tryz.prog 158 [xe r] (ez (r.map Prod.fst)):=
 .Bg (by kernel_rfl) (by simp only [ba,yo,UM]) (fun D nu w vargs hra=>by
  obtain ⟨x,rfl,hx⟩:=dP hra
  cases hx with
  | fn _ _ _ fi ca h1 h2 h3 h4=>
  obtain ⟨y,rfl,hy⟩:=dP (D:=D) (nu:=nu) (o:=[]) (w:=w) ⟨h2,h4⟩;obtain rfl:fi = #[]:=Array.eq_empty_of_size_eq_zero (by simpa using h1.symm)
  cases hy with
  | fp _ _ _ S k0 k1 k2 k3 k4=>
  obtain ⟨Bm,rfl⟩:=k3 w (fun _ _=>rfl)
  cases k4 with
  | vp _ _ _ f q1 q2 q3 q4=>
  have hm:=q2 0 _ rfl;have hmap:=q3 0 _ rfl;obtain ⟨b,D0,e0,hb,hown,hperm,hsize⟩:=I0 hmap hs (pN hr) hl;rw [e0] at hm;simp only [Nat.add_zero] at hm;have hseq:=AnyZ.keys_gives (ρ:=xg) { s6 with } Fence.wide 2 trivial rfl (by omega) Bm b r.length D0 w q1.1 hm hown;have cS:=AnyZ.sorted_in xT Fence.wide 5 trivial trivial trivial trivial rfl (by omega) (LB _) (enters_of Tryz.func115 (by kernel_rfl) rfl) 201 #[.pointer (some ⟨Bm,0,none⟩)] trivial (enters_of Tryz.func201 (by kernel_rfl) rfl) _ _ (by rw [hsize];unfold maxLen;omega) (by rw [hsize];omega) w hseq;refine ((callsIn_wide (n:=5)).1 cS).mono ?_;rintro e w' ⟨v,ss,rfl,hS,hrow,hnil,hbl⟩
  have hlen:ss.length=(r.map Prod.fst).length:=by rw [hS.length_eq,hperm.length_eq,oY,T1,T1]
  have hk:(ss.mergeSort (fun x y=>decide (x<=y))).map encStr=(r.map Prod.fst).map Value.string:=by
   rw [Go.mergeSort_of_perm (hS.trans hperm),CO hr,oY,Vz,Vz];refine List.map_congr_left fun p _=> ?_;simp [encStr]
  rw [hlen,hk] at hrow
  exact ⟨v,rfl,z7 hrow,hbl,De hrow⟩)
theorem IZ {r:a7} {i:Nat} (h:i<r.length):cf (r.drop i)=[.v (.string r[i].1), .v (.int .i64 (r[i].2:Nat))] :: cf (r.drop (i+1)):=by
 rw [cf,List.drop_eq_getElem_cons h];rfl
theorem K3 {r:a7} (hr:mn (r.map Prod.fst)) {i:Nat} (h:i<r.length):look r r[i].1=some r[i].2:=IW (pN hr) (List.getElem_mem h)
theorem tL (rows:List a7) (ends:List Bool) (s:Nat) (hs:s<rows.length) (hN:rows.length<=1000000) (hz: ∀p∈rows[s],p.1.size<=maxLen) (hr:mn (rows[s].map Prod.fst)) (hl:rows[s].length<=1000000) :
  nz Tryz.prog 157 [.vp [.vp (gV rows ends)], .vp [.v (.int .i64 (s:Nat))]] [] (cf rows[s]):=by
 have CK:=IS rows[s];have CS:=DE rows[s] hz hr hl
 have e0:cf rows[s]=cf (rows[s].drop 0):=by rw [List.drop_zero]
 have eR:(rows.map (fun r=>[AV.mp (cf r)])).getD s []=[.mp (cf rows[s])]:=by
  rw [T3,Tq,Tn hs];rfl
 rw [show nz Tryz.prog 157 [.vp [.vp (gV rows ends)], .vp [.v (.int .i64 (s:Nat))]] [] (cf rows[s])=nz Tryz.prog 157 [.vp [.vp (gV rows ends)], .vp [.v (.int .i64 (s:Nat))]] [] (cf (rows[s].drop 0)) by rw [<-e0]];simp only [gV,ez,T1] at *
 (refine nz.enter Tryz.func157 rfl (by kernel_rfl) (by kernel_rfl) rfl (fun l=> ?_);simp only [Tryz.ntmps157,Tryz.results157,List.length_cons,List.length_nil,Nat.reduceAdd,Nat.reduceSub,UN,UO,UP,List.nil_append])
 repeat (first|(with_reducible first|refine ag.up ?_|refine fun (K:AK) hK=> ?_|refine ah (by decide) ?_|(refine hK _ ?_;clear hK K))|simp only [go_sem,eR]|with_reducible refine wA ?_|clear hK K)
 refine du [] [] (by decide+kernel) (by kernel_rfl) ?_
 repeat (first|(with_reducible first|refine ag.up ?_|refine fun (K:AK) hK=> ?_|refine ah (by decide) ?_|(refine hK _ ?_;clear hK K))|simp only [go_sem,eR]|with_reducible refine wA ?_|clear hK K)
 refine bt.one CK ?_
 repeat (first|(with_reducible first|refine ag.up ?_|refine fun (K:AK) hK=> ?_|refine ah (by decide) ?_|(refine hK _ ?_;clear hK K))|simp only [go_sem,eR]|with_reducible refine wA ?_|clear hK K)
 refine bt.one CS ?_
 repeat (first|(with_reducible first|refine ag.up ?_|refine fun (K:AK) hK=> ?_|refine ah (by decide) ?_|(refine hK _ ?_;clear hK K))|simp only [go_sem,eR]|with_reducible refine wA ?_|clear hK K)
 refine nI (ι:=Nat) 17 (fun i=>[(16, .v (.int .i64 i)),(5, .undef)]) (fun i=>[]) (fun i=> .run l (cf (rows[s].drop i))) (fun i=>rows[s].length - i) (fun i=>i<=rows[s].length) 0 (by omega) ?_ ?_
 ·(refine aq ?_ ?_ ?_<;>simp only [aG,List.foldl_cons,List.foldl_nil,UN,UO,bd,bj,AV.v.injEq,Value.int.injEq,Value.bool.injEq,Value.string.injEq,AV.vec.injEq,AV.ptr.injEq,true_or,or_true,false_or,or_false,aa.mk.injEq,forall_eq_apply_imp_iff,forall_eq,forall_eq',go_sem])
  rfl
 ·rintro i hi K hK
  repeat (first|(with_reducible first|refine ag.up ?_|refine fun (K:AK) hK=> ?_|refine ah (by decide) ?_|(refine hK _ ?_;clear hK K))|simp only [go_sem]|with_reducible refine wA ?_|clear hK K)
  refine fU.part (fun h=> ?_) (fun h=> ?_)
  ·have hlt:i<rows[s].length:=by (try simp only [bne_iff_ne,ne_eq,bne_eq_false_iff_eq,beq_iff_eq,beq_eq_false_iff_ne,decide_eq_true_eq,decide_eq_false_iff_not,UR,Int.natCast_inj,Int.ofNat_lt,Int.ofNat_le] at h);omega
   have eW:=aD (k:=i) (by omega)
   have eG:(List.map encS (List.map Prod.fst rows[s])).getD i []=[.v (.string rows[s][i].1)]:=by
    rw [T3,Tq,Tq,Tn hlt];rfl
   have eY:=IZ hlt;have eA:=ug rows[s][i].1 rows[s];rw [K3 hr hlt] at eA;simp only [Option.map_some] at eA
   repeat (first|(with_reducible first|refine ag.up ?_|refine fun (K:AK) hK=> ?_|refine ah (by decide) ?_|(refine hK _ ?_;clear hK K))|simp only [go_sem,eG,h]|with_reducible refine wA ?_|clear hK K)
   (refine Cg 11 (by decide+kernel) (by kernel_rfl) ?_;simp only [List.drop_succ_cons,List.drop_zero,List.take_succ_cons,List.take_zero])
   repeat' (first|(with_reducible first|refine ag.up ?_|refine fun (K:AK) hK=> ?_|refine ah (by decide) ?_|(refine hK _ ?_;clear hK K))|simp only [go_sem,eR,eA,eY,eW,Go.undef]|with_reducible refine wA ?_|clear hK K|(with_reducible refine ab.one (by assumption) ?_)|(with_reducible refine bt.one (by assumption) ?_)|(refine fU.part (fun hb=> ?_) (fun hb=> ?_)<;>simp only [hb,go_sem,eR,eA,eY,eW,Go.undef])|(refine fU.part (fun hb=> ?_) (fun hb=> ?_))|(with_reducible refine jI.mk ?_ ?_))
   ·exact aP.mk (i+1) (by omega) (by omega) (by (refine aq ?_ ?_ ?_<;>simp only [aG,List.foldl_cons,List.foldl_nil,UN,UO,bd,bj,AV.v.injEq,Value.int.injEq,Value.bool.injEq,Value.string.injEq,AV.vec.injEq,AV.ptr.injEq,true_or,or_true,false_or,or_false,aa.mk.injEq,forall_eq_apply_imp_iff,forall_eq,forall_eq',go_sem]))
   ·exact .inr trivial
  ·have e1:rows[s].drop i=[]:=List.drop_eq_nil_of_le (by (try simp only [bne_iff_ne,ne_eq,bne_eq_false_iff_eq,beq_iff_eq,beq_eq_false_iff_ne,decide_eq_true_eq,decide_eq_false_iff_not,UR,Int.natCast_inj,Int.ofNat_lt,Int.ofNat_le] at h);omega);simp only [e1,cf,List.map_nil]
   repeat (first|(with_reducible first|refine ag.up ?_|refine fun (K:AK) hK=> ?_|refine ah (by decide) ?_|(refine hK _ ?_;clear hK K))|simp only [go_sem]|with_reducible refine wA ?_|clear hK K)
   exact .inl trivial
theorem By (rows:List a7) (ends:List Bool) (s:Nat):af Tryz.prog 125 [.vp (gV rows ends), .v (.int .i64 (s:Nat))] (.fn 157 [] [.vp [.vp (gV rows ends)], .vp [.v (.int .i64 (s:Nat))]]):=by
 simp only [gV] at *
 (refine af.enter Tryz.func125 rfl (by kernel_rfl) (by kernel_rfl) rfl (by first|rfl|(simp only [go_sem,UM,Bool.and_true,Bool.true_and])) (by first|rfl|(simp only [go_sem,UM,Bool.and_true,Bool.true_and])) ?_;simp only [Tryz.ntmps125,Tryz.results125,List.length_cons,List.length_nil,Nat.reduceAdd,Nat.reduceSub,UN,UO,UP,List.nil_append])
 repeat' (first|(with_reducible first|refine ag.up ?_|refine fun (K:AK) hK=> ?_|(refine hK _ ?_;clear hK K))|simp only [go_sem]|clear hK K|(with_reducible refine ab.one (by assumption) ?_)|(with_reducible refine bt.one (by assumption) ?_)|(refine fU.part (fun hb=> ?_) (fun hb=> ?_)<;>simp only [hb,go_sem])|(refine fU.part (fun hb=> ?_) (fun hb=> ?_))|(with_reducible refine jI.mk ?_ ?_))
 (refine nq.of 40 rfl ?_;simp only [go_sem])
end
section
theorem KN {a b x y:List UInt8} (h:a++32 :: x=b++32 :: y) (ha:32∉a) (hb:32∉b):a=b∧x=y:=by
 induction a generalizing b with
 | nil=>
  cases b with
  | nil=>simpa using h
  | cons c b=>simp at h hb;exact absurd h.1 hb.1
 | cons d a ih=>
  cases b with
  | nil=>simp at h ha;exact absurd h.1.symm ha.1
  | cons c b=>
   simp only [List.cons_append,Vi,List.mem_cons,not_or] at h ha hb;obtain ⟨rfl,h⟩:=h;obtain ⟨h1,h2⟩:=ih h ha.2 hb.2;exact ⟨by rw [h1],h2⟩
section
variable (rows:List a7) (ends:List Bool)
def Da (r:a7):Prop:= ∀p∈r,32∉p.1.data.toList
def vL (part:List Nat) (r:a7):List Nat:=r.map (fun e=>part.getD e.2 0)
theorem yd {part:List Nat}: ∀ {r s:a7},Da r->Da s->r.flatMap (fun e=>32 :: (e.1.data.toList++32 :: Lib.decDigits (part.getD e.2 0)))=s.flatMap (fun e=>32 :: (e.1.data.toList++32 :: Lib.decDigits (part.getD e.2 0)))->r.map Prod.fst=s.map Prod.fst∧vL part r=vL part s
 | [],[],_,_,_=>⟨rfl,rfl⟩
 | [],b :: s,_,_,h=>by simp at h
 | a :: r,[],_,_,h=>by simp at h
 | a :: r,b :: s,h1,h2,h=>by
  simp only [List.flatMap_cons,List.cons_append,List.append_assoc,Vi,true_and] at h;obtain ⟨k1,k2⟩:=KN h (h1 a List.mem_cons_self) (h2 b List.mem_cons_self)
  have hh: ∀t:a7,(t.flatMap (fun e=>32 :: (e.1.data.toList++32 :: Lib.decDigits (part.getD e.2 0))))=[]∨(t.flatMap (fun e=>32 :: (e.1.data.toList++32 :: Lib.decDigits (part.getD e.2 0)))).head? = some 32:=fun t=>by
   cases t with
   | nil=>exact .inl rfl
   | cons a t=>exact .inr rfl
  obtain ⟨k3,k4⟩:=mE k2 (hh r) (hh s);obtain ⟨k5,k6⟩:=yd (fun p hp=>h1 p (T8 _ hp)) (fun p hp=>h2 p (T8 _ hp)) k4
  have:a.1=b.1:=by
   cases ha:a.1 with|mk x=>cases hb:b.1 with|mk y=>
   rw [ha,hb] at k1;exact congrArg ByteArray.mk (Array.toList_inj.1 k1)
  exact ⟨by rw [Vd,Vd,k5,this],by rw [vL,Vd,k3];rw [vL,vL] at k6;rw [k6];rfl⟩
theorem Df {part:List Nat} {p q:Nat} {r s:a7} (h1:Da r) (h2:Da s) (h:cz part p r=cz part q s):p=q∧r.map Prod.fst=s.map Prod.fst∧vL part r=vL part s:=by
 have e:u6 part p r=u6 part q s:=by
  have:(cz part p r).data.toList=(cz part q s).data.toList:=by rw [h]
  simpa [cz] using this
 have hh: ∀t:a7,(t.flatMap (fun e=>32 :: (e.1.data.toList++32 :: Lib.decDigits (part.getD e.2 0))))=[]∨(t.flatMap (fun e=>32 :: (e.1.data.toList++32 :: Lib.decDigits (part.getD e.2 0)))).head? = some 32:=fun t=>by
  cases t with
  | nil=>exact .inl rfl
  | cons a t=>exact .inr rfl
 obtain ⟨k1,k2⟩:=mE e (hh r) (hh s);exact ⟨k1,yd h1 h2 k2⟩
structure OI (part:List Nat):Prop where
 ends: ∀s t,s<rows.length->t<rows.length->part.getD s 0=part.getD t 0->ends.getD s false=ends.getD t false
 row: ∀s t,s<rows.length->t<rows.length->part.getD s 0=part.getD t 0->(rows.getD s []).map Prod.fst=(rows.getD t []).map Prod.fst∧vL part (rows.getD s [])=vL part (rows.getD t [])
def Be:Prop:= ∀r∈rows,Da r
theorem Bf (h:Be rows) (s:Nat):Da (rows.getD s []):=by
 rcases S9 s rows.length with q|q
 ·exact h _ (bM q)
 ·rw [T3,List.getElem?_eq_none q];exact fun p hp=>by simp at hp
theorem tg {part:List Nat} {s t:Nat} (hs:s<rows.length) (ht:t<rows.length):(dA rows part).getD s 0=(dA rows part).getD t 0↔cz part (part.getD s 0) (rows.getD s [])=cz part (part.getD t 0) (rows.getD t []):=by
 have ok:=fD rows part rows.length;obtain ⟨q1,q2⟩:=ok.at' s hs;obtain ⟨r1,r2⟩:=ok.at' t ht
 constructor
 ·intro e;have e1:(dy rows part rows.length).2.getD s 0=(dy rows part rows.length).2.getD t 0:=e;rw [<-q2, <- r2];simp only [e1]
 ·intro e;rw [<-q2, <- r2] at e
  exact VA fun hne=>by
   rcases S9 ((dy rows part rows.length).2.getD s 0) ((dy rows part rows.length).2.getD t 0) with h|h
   ·exact Vr.1 ok.nd _ _ q1 r1 h e
   ·exact Vr.1 ok.nd _ _ r1 q1 (Nat.lt_of_le_of_ne h (fun q=>hne q.symm)) e.symm
theorem ma {part:List Nat} {s t:Nat} (hs:s<rows.length) (ht:t<rows.length) (h:(dA rows part).getD s 0=(dA rows part).getD t 0):part.getD s 0=part.getD t 0:=
 qY ((tg rows hs ht).1 h)
theorem mU {part:List Nat} {s:Nat} (hs:s<rows.length):(dA rows part).getD s 0<fQ rows part:=((fD rows part rows.length).at' s hs).1
theorem zQ {part:List Nat} {many:Nat} (h:MD rows part many) (hlt: ∀s,s<rows.length->part.getD s 0<many) (he:fQ rows part=many) {s t:Nat} (hs:s<rows.length) (ht:t<rows.length) (hp:part.getD s 0=part.getD t 0):(dA rows part).getD s 0=(dA rows part).getD t 0:=by
 refine VA fun hne=> ?_
 have hch: ∀k, ∃m,k<many-> ∃u,u<rows.length∧part.getD u 0=k∧(dA rows part).getD u 0=m:=fun k=>by
  by_cases hk:k<many
  ·obtain ⟨u,h1,h2⟩:=h.2 k hk;exact ⟨_,fun _=>⟨u,h1,h2,rfl⟩⟩
  ·exact ⟨0,fun q=>absurd q hk⟩
 obtain ⟨f,hf⟩:=Classical.axiomOfChoice hch
 have fin: ∀a b,a<many->b<many->f a=f b->a=b:=fun a b ha hb e=>by
  obtain ⟨u,k1,k2,k3⟩:=hf a ha;obtain ⟨v,m1,m2,m3⟩:=hf b hb
  have:=ma rows k1 m1 (k3.trans (e.trans m3.symm))
  rw [<-k2, <- m2];exact this
 have hk:=hlt s hs
 
 obtain ⟨z,hz,hz2⟩: ∃z,z<rows.length∧part.getD z 0=part.getD s 0∧(dA rows part).getD z 0≠f (part.getD s 0):=by
  by_cases q:(dA rows part).getD s 0=f (part.getD s 0)
  ·exact ⟨t,ht,hp.symm,fun e=>hne (q.trans e.symm)⟩
  ·exact ⟨s,hs,rfl,q⟩
 have:=Fk (many+1) (fQ rows part) (fun a=>if a<many then f a else (dA rows part).getD z 0) (fun a ha=>by
  split
  ·rename_i q;obtain ⟨u,k1,_,k3⟩:=hf a q;rw [<-k3];exact mU rows k1
  ·exact mU rows hz) (fun a b ha hb e=>by
  have side: ∀a,a<many->f a≠(dA rows part).getD z 0:=fun a q e=>by
   obtain ⟨u,k1,k2,k3⟩:=hf a q
   have:=ma rows k1 hz (k3.trans e)
   have ha':a=part.getD s 0:=by rw [<-k2,this,hz2.1]
   subst ha';exact hz2.2 e.symm
  split at e<;>split at e
  ·rename_i q1 q2;exact fin a b q1 q2 e
  ·rename_i q1 q2;exact absurd e (side a q1)
  ·rename_i q1 q2;exact absurd e.symm (side b q2)
  ·omega)
 omega
def JX (part:List Nat):Prop:= ∀s t,s<rows.length->t<rows.length->part.getD s 0=part.getD t 0->ends.getD s false=ends.getD t false
theorem xy (hn:Be rows) (hT: ∀r∈rows, ∀p∈r,p.2<rows.length) (h0:0<rows.length): ∀(f:Nat) {part:List Nat} {many:Nat},JX rows ends part->MD rows part many->many<=rows.length->(many≠0-> ∀s,s<rows.length->part.getD s 0<many)->rows.length+1<=f+many ->
  OI rows ends (u7 rows f part many)∧(u7 rows f part many).length=rows.length
 | 0,part,many,_,_,_,_,hf=>by omega
 | f+1,part,many,he,ho,hm,hlt,hf=>by
  have hN:JX rows ends (dA rows part):=fun s t hs ht h=>he s t hs ht (ma rows hs ht h);have hpos:0<fQ rows part:=Nat.lt_of_le_of_lt (Nat.zero_le _) (mU rows (part:=part) h0);rw [u7]
  split
  ·rename_i hq;refine ⟨⟨hN,fun s t hs ht h=> ?_⟩,(q9 rows part).1⟩;obtain ⟨_,k2,k3⟩:=Df (Bf rows hn s) (Bf rows hn t) ((tg rows hs ht).1 h);refine ⟨k2, ?_⟩
   
   have hlen:(rows.getD s []).length=(rows.getD t []).length:=by simpa using congrArg List.length k2
   refine List.ext_getElem (by simp only [vL,List.length_map,hlen]) fun i h1 h2=> ?_
   have e:(vL part (rows.getD s []))[i]? = (vL part (rows.getD t []))[i]? :=by rw [k3]
   simp only [vL,List.length_map] at h1 h2;simp only [vL,List.getElem?_map,Tn h1,Tn h2,Option.map_some,Ti,List.getElem_map] at e ⊢;exact zQ rows ho (hlt (by omega)) hq (hT _ (bM hs) _ (List.getElem_mem h1)) (hT _ (bM ht) _ (List.getElem_mem h2)) e
  ·rename_i hq
   have:=q8 rows ho
   exact xy hn hT h0 f hN (q9 rows part) (xx rows part) (fun _ s hs=>mU rows hs) (by omega)
theorem rh (hn:Be rows) (hT: ∀r∈rows, ∀p∈r,p.2<rows.length) (h0:0<rows.length) (hl:ends.length=rows.length):OI rows ends (cu rows ends)∧(cu rows ends).length=rows.length:=by
 refine xy rows ends hn hT h0 (rows.length+2) (fun s t hs ht h=> ?_) ⟨by simp [p0,hl],fun k h=>by omega⟩ (Nat.zero_le _) (fun h=>absurd rfl h) (by omega)
 have hg: ∀u,u<rows.length->(p0 ends).getD u 0=if ends.getD u false then 1 else 0:=fun u hu=>by
  rw [p0,T3,List.getElem?_map,Tn (by omega),T3,Tn (by omega)];rfl
 rw [hg s hs,hg t ht] at h;cases h1:ends.getD s false<;>cases h2:ends.getD t false<;>simp_all
variable {rows ends}
theorem xm {part:List Nat}: ∀ {r s:a7},r.map Prod.fst=s.map Prod.fst->vL part r=vL part s-> ∀l,(look r l=none↔look s l=none)∧ ∀a b,look r l=some a->look s l=some b->part.getD a 0=part.getD b 0
 | [],[],_,_,l=>⟨Iff.rfl,fun a b h=>by simp [look] at h⟩
 | [],b :: s,h,_,l=>by simp at h
 | a :: r,[],h,_,l=>by simp at h
 | a :: r,b :: s,h1,h2,l=>by
  rw [Vd,Vd,Vi] at h1;rw [vL,vL,Vd,Vd,Vi] at h2;obtain ⟨k1,k2⟩:=xm h1.2 h2.2 l
  cases hh:dp l a.1
  ·have hb:dp l b.1=false:=by rw [<-h1.1];exact hh
   simp only [look,List.find?_cons,hh,hb] at k1 k2 ⊢;exact ⟨k1,k2⟩
  ·have hb:dp l b.1=true:=by rw [<-h1.1];exact hh
   simp only [look,List.find?_cons,hh,hb,Option.map_some];exact ⟨by simp,fun x y hx hy=>by cases hx;cases hy;exact h2.1⟩
theorem uR (hT: ∀r∈rows, ∀p∈r,p.2<rows.length) {s:Nat} (hs:s<rows.length) {l:ByteArray} {t:Nat} (h:look (rows.getD s []) l=some t):t<rows.length:=hT _ (bM hs) _ (xl h)
theorem tJ (hT: ∀r∈rows, ∀p∈r,p.2<rows.length) {part:List Nat} (h:OI rows ends part): ∀(w:List ByteArray) {s t:Nat},s<rows.length->t<rows.length->part.getD s 0=part.getD t 0->cR rows ends s w=cR rows ends t w
 | [],s,t,hs,ht,e=>h.ends s t hs ht e
 | l :: w,s,t,hs,ht,e=>by
  obtain ⟨h1,h2⟩:=h.row s t hs ht e;obtain ⟨k1,k2⟩:=xm h1 h2 l;rw [cR,cR,r6,r6]
  cases q1:look (rows.getD s []) l with
  | none=>rw [k1.1 q1]
  | some a=>
   cases q2:look (rows.getD t []) l with
   | none=>rw [k1.2 q2] at q1;cases q1
   | some b=>exact tJ hT h w (uR hT hs q1) (uR hT ht q2) (k2 a b q1 q2)
def Ee (part order:List Nat) (r r':a7):Prop:= ∀l,(look r l=none->look r' l=none)∧ ∀t,look r l=some t-> ∃k,look r' l=some k∧k<order.length∧part.getD (order.getD k 0) 0=part.getD t 0
theorem Ee.mono {part order t:List Nat} {r r':a7} (h:Ee part order r r'):Ee part (order++t) r r':=fun l=>
 ⟨(h l).1,fun a ha=>by
  obtain ⟨k,k1,k2,k3⟩:=(h l).2 a ha
  exact ⟨k,k1,by rw [Tb];omega,by rw [cw k2];exact k3⟩⟩
theorem Gf (part:List Nat) (order:List Nat): ∀r:a7,(r.map Prod.fst).Nodup->Ee part (dz part order r).1 r (dz part order r).2:=by
 refine jF (fun _ l=>⟨fun _=>by simp [dz,look],fun t h=>by simp [look] at h⟩) ?_;intro r e ih hn l;rw [List.map_append] at hn;have hn':=List.nodup_append.1 hn;have ih:=ih hn'.1;have hm:look r e.1=none:=nZ.2 fun q=>hn'.2.2 e.1 q e.1 (by simp) rfl
 have key: ∀(o':List Nat) (k:Nat),(∃t,o'=(dz part order r).1++t)->k<o'.length->part.getD (o'.getD k 0) 0=part.getD e.2 0->(look (r++[e]) l=none->look ((dz part order r).2++[(e.1,k)]) l=none)∧ ∀t,look (r++[e]) l=some t-> ∃j,look ((dz part order r).2++[(e.1,k)]) l=some j∧j<o'.length∧part.getD (o'.getD j 0) 0=part.getD t 0:=by
  rintro _ k ⟨t2,rfl⟩ hk hp;have e2:r++[e]=r++[(e.1,e.2)]:=rfl;rw [e2,iK,iK,iL,iL]
  by_cases hl:l=e.1
  ·subst hl;rw [hm,(ih _).1 hm,if_pos rfl,if_pos rfl];refine ⟨fun h=>by simp at h,fun t h=> ?_⟩;simp only [Option.none_or,Ti] at h;subst h;exact ⟨k,rfl,hk,hp⟩
  ·rw [if_neg hl,if_neg hl]
   refine ⟨fun h=> ?_,fun t h=> ?_⟩
   ·cases q:look r l with
    | none=>rw [(ih l).1 q];rfl
    | some t=>rw [q] at h;cases h
   ·cases q:look r l with
    | none=>rw [q] at h;cases h
    | some t'=>
     rw [q] at h;simp only [Option.some_or,Ti] at h;subst h;obtain ⟨j,j1,j2,j3⟩:=(ih l).2 t' q;exact ⟨j,by rw [j1];rfl,by rw [Tb];omega,by rw [cw j2];exact j3⟩
 rw [k9,Dq]
 split
 ·rename_i n hq;obtain ⟨q1,q2⟩:=tu part hq
  have q3:(dz part order r).1.getD n 0=(dz part order r).1[n]:=by rw [T3,Tn q1,Option.getD_some]
  exact key _ n ⟨[],by simp⟩ q1 (by show part.getD ((dz part order r).1.getD n 0) 0=_;rw [q3];exact q2)
 ·exact key _ _ ⟨_,rfl⟩ (by simp) (by rw [dv])
structure QW (rows:List a7) (ends:List Bool) (part:List Nat) (st:vT):Prop where
 zero:st.order.getD 0 0=0
 row: ∀k,k<st.rows.length->Ee part st.order (rows.getD (st.order.getD k 0) []) (st.rows.getD k [])
 Cr: ∀k,k<st.rows.length->st.ends.getD k false=ends.getD (st.order.getD k 0) false
theorem Js (hT: ∀r∈rows, ∀p∈r,p.2<rows.length) (hN: ∀r∈rows,(r.map Prod.fst).Nodup) {part:List Nat} {st:vT} (ho:Ed rows part st) (h:QW rows ends part st) (h1:st.rows.length<st.order.length):QW rows ends part (fe rows ends part st):=by
 have hc:gN st<rows.length:=ho.lt _ (bM h1);obtain ⟨_,_,_,k4,_,t,k6⟩:=pL part (n:=rows.length) ho.nd ho.lt (rows.getD (gN st) []) (hT _ (bM hc));have hr:=Gf part st.order (rows.getD (gN st) []) (hN _ (bM hc))
 have hg: ∀k,k<st.order.length->(fe rows ends part st).order.getD k 0=st.order.getD k 0:=fun k hk=>by simp only [fe,k6];exact cw hk
 refine ⟨by rw [hg 0 (by omega)];exact h.zero,fun k hk=> ?_,fun k hk=> ?_⟩
 ·have hk':k<st.rows.length+1:=by simpa [fe] using hk
  rw [hg k (by omega)]
  rcases S9 k st.rows.length with q|q
  ·simp only [fe,k6,e7 q];exact (h.row k q).mono
  ·obtain rfl:k=st.rows.length:=by omega
   simp only [fe,dv];exact hr
 ·have hk':k<st.rows.length+1:=by simpa [fe] using hk
  rw [hg k (by omega)]
  rcases S9 k st.rows.length with q|q
  ·simp only [fe];rw [e7 (by rw [ho.ends];exact q)];exact h.Cr k q
  ·obtain rfl:k=st.rows.length:=by omega
   simp only [fe];rw [<-ho.ends,dv,ho.ends];rfl
theorem Gg (hT: ∀r∈rows, ∀p∈r,p.2<rows.length) (hN: ∀r∈rows,(r.map Prod.fst).Nodup) {part:List Nat}: ∀(f:Nat) {st:vT},Ed rows part st->QW rows ends part st->QW rows ends part (mW rows ends part f st)
 | 0,st,_,h=>h
 | f+1,st,ho,h=>by
  rw [mW]
  split
  ·rename_i h1;exact Gg hT hN f (rm rows ends part hT ho h1) (Js hT hN ho h h1)
  ·exact h
theorem FD (hT: ∀r∈rows, ∀p∈r,p.2<rows.length) (hN: ∀r∈rows,(r.map Prod.fst).Nodup) (h0:0<rows.length) (part:List Nat) :
  Ed rows part (cL rows ends part)∧(cL rows ends part).rows.length=(cL rows ends part).order.length∧QW rows ends part (cL rows ends part):=by
 have h:=Bp rows ends part hT (rows.length+1) (Ge rows part h0) (by simp [q0]);exact ⟨h.1,h.2,Gg hT hN _ (Ge rows part h0) ⟨rfl,fun k hk=>by simp [q0] at hk,fun k hk=>by simp [q0] at hk⟩⟩
theorem xG {part:List Nat}: ∀(f:Nat) {st:vT},st.order.length<=(mW rows ends part f st).order.length
 | 0,st=>Nat.le_refl _
 | f+1,st=>by
  rw [mW]
  split
  ·have hq: ∀(o:List Nat) (r:a7),o.length<=(dz part o r).1.length:=fun o=>by
    refine jF (by simp [dz]) ?_;intro r e ih;rw [k9,Dq]
    split
    ·exact ih
    ·simp only [Tb];omega
   exact Nat.le_trans (hq _ _) (xG f (st:=fe rows ends part st))
  ·exact Nat.le_refl _
theorem oZ (hT: ∀r∈rows, ∀p∈r,p.2<rows.length) {part:List Nat} (hS:OI rows ends part) {st:vT} (ho:Ed rows part st) (hl:st.rows.length=st.order.length) (h:QW rows ends part st): ∀(w:List ByteArray) {k:Nat},k<st.order.length->cR st.rows st.ends k w=cR rows ends (st.order.getD k 0) w
 | [],k,hk=>h.Cr k (by omega)
 | l :: w,k,hk=>by
  have hr:=h.row k (by omega) l;have hs:st.order.getD k 0<rows.length:=ho.lt _ (bM hk);rw [cR,cR,r6,r6]
  cases q:look (rows.getD (st.order.getD k 0) []) l with
  | none=>rw [hr.1 q]
  | some t=>
   obtain ⟨j,j1,j2,j3⟩:=hr.2 t q;rw [j1]
   have:=oZ hT hS ho hl h w j2
   rw [cR,cR] at this;simp only;rw [this];exact tJ hT hS w (ho.lt _ (bM j2)) (uR hT hs q) j3
end
end
theorem IB {l:List Nat} {k:Nat} {x:List AV} (h:(aM l)[k]? = some x): ∃hk:k<l.length,x=[.v (.int .i64 (l[k]:Nat))]:=by
 obtain ⟨h1,h2⟩:=List.getElem?_eq_some_iff.1 h;simp only [aM,List.length_map] at h1;exact ⟨h1,by rw [<-h2];simp [aM]⟩
theorem gu {n0:Nat} {Q:aJ->AS->Prop} {t:List AV} {o:List (Option aa)} {y:iz} {g:Operand} {ps:Array Tmp} {assign body:Code} (m:BitVec 32) (id:Nat) (ho:o[id]? = some (some (lV m))) (mm:Nat) (O:Nat->List (Option aa)) (ok:Nat->Prop) (h0:ok 0)
  (hg:(AS.mk t o y).ev g = .fn 213 [] [.ptr id 0 1 0 0]) (hdead:(O 0)[id]? = some none) (hwk:Wk n0 ⟨t,o,y⟩ ⟨bX mm t,O 0,y⟩) (hA:a8 assign=true) (hB:a8 body=true) (hps:ps.size=1)
  (hround: ∀k (hk:k<(ai m).length),ok k->bK Tryz.prog (O 0).length assign ⟨dY ps.toList [.v (.int .i64 ((ai m)[k]:Nat))] (bX mm t),O k,y⟩ (jb Tryz.prog (O 0).length body (jJ (O 0).length (bX mm t) (ok (k+1)) (O (k+1)) y Q)))
  (hfin:ok (ai m).length->Q .normal ⟨bX mm t,O (ai m).length,y⟩):bK Tryz.prog n0 (.rangeFunc g ps assign body) ⟨t,o,y⟩ Q:=by
 have hl:(aM (ai m)).length=(ai m).length:=by simp [aM]
 refine p9 (Hz m) [id] (by simp) ?_ ?_ O (fun _=>y) ok h0 (bX mm t) ?_ (by rfl) ?_ hwk hA hB ?_ ?_ (by rw [hl];exact hfin)
 ·simp only [Vd,List.map_nil,ho,Option.map_some];rfl
 ·intro k ob hk
  match k,hk with
  | 0,hk=>cases hk;rfl
  | k+1,hk=>simp at hk
 ·rw [hg];rfl
 ·intro i hi ob
  obtain rfl:i=id:=by simpa using hi
  rw [hdead];intro h;cases h
 ·intro x hx;obtain ⟨p,_,rfl⟩:=List.mem_map.1 hx;exact hps.symm
 ·intro k x hk hx;obtain ⟨hlt,rfl⟩:=IB hx;exact hround k hlt hk
def ofM (p:Int):BitVec 32:=if 0<=p∧p<=24 then 1#32 <<< p.toNat else 0#32
theorem mQ {p:Int} {i:Nat}:(ofM p).getLsbD i=decide (0<=p∧p<=24∧i=p):=by
 rw [ofM]
 split
 ·rename_i h;rw [BitVec.getLsbD_shiftLeft,BitVec.getLsbD_one,Bool.eq_iff_iff];simp;omega
 ·rename_i h;rw [BitVec.getLsbD_zero,eq_comm,decide_eq_false_iff_not];omega
theorem La (p:Int):af Tryz.prog 145 [.v (.int .i64 p)] (ay (ofM p)):=by
 have hS:0<=p∧p<=24->IntKind.u32.wrap (1 * 2 ^ min p.toNat 32)=((ofM p).toNat:Nat):=fun h=>by
  have e:min p.toNat 32=p.toNat:=by omega
  rw [ofM,if_pos h,e,I7]
 have hZ: ¬(0<=p∧p<=24)->ofM p=0#32:=fun h=>by rw [ofM,if_neg h]
 simp only [ay]
 rcases Int.lt_or_le p 0 with h1|h1
 ·have b1:decide (p<0)=true:=decide_eq_true h1;rw [hZ (by omega)]
  (refine af.enter Tryz.func145 rfl (by kernel_rfl) (by kernel_rfl) rfl (by first|rfl|(simp only [go_sem,UM,Um,Us])) (by first|rfl|(simp only [go_sem,UM,Um,Us])) ?_;simp only [Tryz.ntmps145,Tryz.results145,Tc,S6,Nat.reduceAdd,Nat.reduceSub,UN,UO,UP,UQ])
  repeat (first|(with_reducible first|refine ag.up ?_|refine fun (K:AK) hK=> ?_|(refine hK _ ?_;clear hK K))|simp only [go_sem,b1,Go.undef]|with_reducible refine wA ?_|clear hK K)
  rfl
 ·have b1:decide (p<0)=false:=decide_eq_false (by omega)
  rcases Int.lt_or_le 24 p with h2|h2
  ·have b2:decide (24<p)=true:=decide_eq_true h2;rw [hZ (by omega)]
   (refine af.enter Tryz.func145 rfl (by kernel_rfl) (by kernel_rfl) rfl (by first|rfl|(simp only [go_sem,UM,Um,Us])) (by first|rfl|(simp only [go_sem,UM,Um,Us])) ?_;simp only [Tryz.ntmps145,Tryz.results145,Tc,S6,Nat.reduceAdd,Nat.reduceSub,UN,UO,UP,UQ])
   repeat (first|(with_reducible first|refine ag.up ?_|refine fun (K:AK) hK=> ?_|(refine hK _ ?_;clear hK K))|simp only [go_sem,b1,b2,Go.undef]|with_reducible refine wA ?_|clear hK K)
   rfl
  ·have b2:decide (24<p)=false:=decide_eq_false (by omega);have e:=hS ⟨h1,h2⟩;have e0:(0<=p)=True:=eq_true h1
   (refine af.enter Tryz.func145 rfl (by kernel_rfl) (by kernel_rfl) rfl (by first|rfl|(simp only [go_sem,UM,Um,Us])) (by first|rfl|(simp only [go_sem,UM,Um,Us])) ?_;simp only [Tryz.ntmps145,Tryz.results145,Tc,S6,Nat.reduceAdd,Nat.reduceSub,UN,UO,UP,UQ])
   repeat (first|(with_reducible first|refine ag.up ?_|refine fun (K:AK) hK=> ?_|(refine hK _ ?_;clear hK K))|simp only [go_sem,b1,b2,e,e0,Go.undef]|with_reducible refine wA ?_|clear hK K)
theorem FH (m:BitVec 32):af Tryz.prog 149 [ay m] (.aI 1 (aM (ai m)) (ai m).length):=by
 have A:=nf m;have hb:=Cl m;simp only [lV,ay] at *
 (refine af.enter Tryz.func149 rfl (by kernel_rfl) (by kernel_rfl) rfl (by first|rfl|(simp only [go_sem,UM,Um,Us])) (by first|rfl|(simp only [go_sem,UM,Um,Us])) ?_;simp only [Tryz.ntmps149,Tryz.results149,Tc,S6,Nat.reduceAdd,Nat.reduceSub,UN,UO,UP,UQ])
 repeat (first|(with_reducible first|refine ag.up ?_|refine fun (K:AK) hK=> ?_|(refine hK _ ?_;clear hK K))|simp only [go_sem]|with_reducible refine wA ?_|clear hK K)
 refine ab.fr [] A (by simp) ?_ ?_ ?_ ?_ ?_
 ·rfl
 ·rfl
 ·rfl
 ·intro k ob hk;simp at hk
 repeat (first|(with_reducible first|refine ag.up ?_|refine fun (K:AK) hK=> ?_|(refine hK _ ?_;clear hK K))|simp only [go_sem]|with_reducible refine wA ?_|clear hK K)
 refine nH (eJ (k:=0) (i:=0) (j:=0) 3 1 (by decide) rfl (by decide) rfl rfl) (by kernel_rfl) ?_;simp only [Tc,S6,Nat.reduceAdd,UP,UQ,List.set_cons_zero]
 refine gu m 1 rfl 3 (fun k=>[some ⟨56,1,false,[[.vec 2 k]]⟩,none,some ⟨3,1,true,aM ((ai m).take k)⟩]) (fun _=>True) trivial ?_ rfl ?_ (by kernel_rfl) (by kernel_rfl) rfl ?_ ?_
 ·rfl
 ·(refine aq ?_ ?_ ?_<;>simp only [aG,UG,UH,UN,UO,bd,bj,AV.v.injEq,Value.int.injEq,Value.bool.injEq,Value.string.injEq,AV.vec.injEq,AV.ptr.injEq,true_or,or_true,false_or,or_false,aa.mk.injEq,forall_eq_apply_imp_iff,forall_eq,forall_eq',go_sem])
  rfl
 ·intro k hk _
  have eS:aM ((ai m).take (k+1))=aM ((ai m).take k)++[[.v (.int .i64 ((ai m)[k]:Nat))]]:=by rw [VB hk,aM,List.map_append];rfl
  have eL:(aM ((ai m).take k)).length=k:=by simp [aM];omega
  repeat (first|(with_reducible first|refine ag.up ?_|refine fun (K:AK) hK=> ?_|(refine hK _ ?_;clear hK K))|simp only [go_sem]|with_reducible refine wA ?_|clear hK K)
  rw [eS]
  (refine aq ?_ ?_ ?_<;>simp only [aG,UG,UH,UN,UO,bd,bj,AV.v.injEq,Value.int.injEq,Value.bool.injEq,Value.string.injEq,AV.vec.injEq,AV.ptr.injEq,true_or,or_true,false_or,or_false,aa.mk.injEq,forall_eq_apply_imp_iff,forall_eq,forall_eq',go_sem])
 ·intro _;have e1:(ai m).take (ai m).length=ai m:=List.take_length
  have eL:(aM (ai m)).length=(ai m).length:=by simp [aM]
  repeat (first|(with_reducible first|refine ag.up ?_|refine fun (K:AK) hK=> ?_|(refine hK _ ?_;clear hK K))|simp only [go_sem,e1]|with_reducible refine wA ?_|clear hK K)
  rw [<-eL]
  (refine nq.of 40 rfl ?_;simp only [go_sem])
  trace_state
structure bE where
 ae:List ByteArray
 fs:List (BitVec 32)
 la:BitVec 32
 em:Bool
def bE.row (i:Nat) (s:bE):List AV:= .vec i s.ae.length :: (s.fs.map ay++[ay s.la, .v (.bool s.em)])
def bE.os (s:bE):List (Option aa):=[some ⟨188,28,false,[s.row 1]⟩,some ⟨9,1,true,s.ae.map encS⟩]
def C0 (b:BitVec 32) (fs:List (BitVec 32)) (p:Nat):List (BitVec 32):=fs.set p (fs.getD p 0#32 ||| b)
def jR (b:BitVec 32) (l:List Nat) (fs:List (BitVec 32)):List (BitVec 32):=l.foldl (C0 b) fs
theorem mN (b:BitVec 32): ∀(l:List Nat) (fs:List (BitVec 32)),(jR b l fs).length=fs.length
 | [],fs=>rfl
 | p :: l,fs=>by rw [jR,UG, <- jR,mN b l,C0,List.length_set]
theorem C6 (b:BitVec 32) (l:List Nat) (p:Nat) (fs:List (BitVec 32)):jR b (l++[p]) fs=C0 b (jR b l fs) p:=by
 rw [jR,List.foldl_append];rfl
theorem A6 {fs:List (BitVec 32)} {l:AV} {X:List AV} {p:Nat} (h:p<fs.length): ∃r,(l :: (fs.map ay++X)).drop (1+p * 1)=ay (fs.getD p 0#32) :: r:=by
 refine ⟨(fs.map ay++X).drop (p+1), ?_⟩;rw [Nat.mul_one,Nat.add_comm,List.drop_succ_cons,List.drop_eq_getElem_cons (by simp;omega),List.getElem_append_left (by simpa using h),List.getElem_map];simp [List.getD,h]
theorem KX {fs:List (BitVec 32)} {l:AV} {X:List AV} {p:Nat} (x:BitVec 32) (h:p<fs.length):(l :: (fs.map ay++X)).take (1+p * 1)++ay x :: (fs.map ay++X).drop (1+p * 1)=l :: ((fs.set p x).map ay++X):=by
 rw [Nat.mul_one,Nat.add_comm,List.take_succ_cons,UP,List.map_set, <- List.set_append_left p (ay x) (by simpa using h),List.set_eq_take_append_cons_drop,if_pos (by simp;omega)]
theorem Ap (n:Nat) (fs:List (BitVec 32)) (x y:Value):ba n (fs.map ay++[.v x, .v y])=true:=by
 induction fs with
 | nil=>rfl
 | cons z l ih=>simp only [Vd,UP,ba,ay,AV.wf,Us];exact ih
theorem vg (f:Nat->Nat) (fs:List (BitVec 32)) (x y:Value):bo f (fs.map ay++[.v x, .v y])=fs.map ay++[.v x, .v y]:=by
 induction fs with
 | nil=>rfl
 | cons z l ih=>simp only [Vd,UP,bo,ih];rfl
attribute [go_sem] Ap vg
theorem FG (s:bE) (a b:BitVec 32) (hl:s.fs.length=25) (ha: ∀p,p∈ai a->p<25) :
  aR Tryz.prog 147 [.ptr 0 0 28 0 0,ay a,ay b] s.os (.ct []) (bE.os { s with fs:=jR b (ai a) s.fs }):=by
 have A:=nf a;obtain ⟨ae,fs,la,em⟩:=s;simp only [bE.os,bE.row,lV] at *;simp only [ay] at A;simp only [ay]
 (refine aR.enter Tryz.func147 rfl (by kernel_rfl) (by kernel_rfl) rfl ?_;simp only [Tryz.ntmps147,Tryz.results147,Tc,S6,Nat.reduceAdd,Nat.reduceSub,UN,UO,UP,UQ])
 repeat (first|(with_reducible first|refine ag.up ?_|refine fun (K:AK) hK=> ?_|refine wE ?_|refine wK ?_|refine wF ?_|(refine hK _ ?_;clear hK K))|simp only [go_sem]|with_reducible refine wA ?_|clear hK K)
 refine ab.fr [] A (by simp) ?_ ?_ ?_ ?_ ?_
 ·rfl
 ·rfl
 ·rfl
 ·intro k ob hk;simp at hk
 repeat (first|(with_reducible first|refine ag.up ?_|refine fun (K:AK) hK=> ?_|refine wE ?_|refine wK ?_|refine wF ?_|(refine hK _ ?_;clear hK K))|simp only [go_sem]|with_reducible refine wA ?_|clear hK K)
 refine gu a 4 (by simp only [lV,ay];rfl) 6 (fun k=>[some ⟨188,28,false,[.vec 1 ae.length :: ((jR b ((ai a).take k) fs).map ay++[.v (.int .u32 la.toNat), .v (.bool em)])]⟩,some ⟨9,1,true,ae.map encS⟩,some ⟨149,1,false,[[.ptr 0 0 28 0 0]]⟩,some ⟨185,1,false,[[.v (.int .u32 b.toNat)]]⟩,none]) (fun _=>True) trivial ?_ rfl ?_ (by kernel_rfl) (by kernel_rfl) rfl ?_ ?_
 ·rfl
 ·(refine aq ?_ ?_ ?_<;>simp only [aG,UG,UH,UN,UO,bd,bj,AV.v.injEq,Value.int.injEq,Value.bool.injEq,Value.string.injEq,AV.vec.injEq,AV.ptr.injEq,true_or,or_true,false_or,or_false,aa.mk.injEq,forall_eq_apply_imp_iff,forall_eq,forall_eq',go_sem])
  rfl
 ·intro k hk _;have hp:=ha _ (List.getElem_mem hk);rw [VB hk,C6,C0]
  have hL:(jR b ((ai a).take k) fs).length=25:=by rw [mN];exact hl
  generalize jR b ((ai a).take k) fs=F at *;generalize (ai a)[k]=p at *;obtain ⟨r,eD⟩:=A6 (l:= .vec 1 ae.length) (X:=[.v (.int .u32 la.toNat), .v (.bool em)]) (fs:=F) (p:=p) (by omega);have eS:=KX (l:= .vec 1 ae.length) (X:=[.v (.int .u32 la.toNat), .v (.bool em)]) (fs:=F) (p:=p) (F.getD p 0#32 ||| b) (by omega);have eT:(p:Int).toNat=p:=Int.toNat_natCast p
  have eB:0<=(p:Int)∧(p:Int)<25:=by omega
  simp only [ay] at eD eS
  repeat (first|(with_reducible first|refine ag.up ?_|refine fun (K:AK) hK=> ?_|refine wE ?_|refine wK ?_|refine wF ?_|(refine hK _ ?_;clear hK K))|simp only [go_sem,eD,jv]|with_reducible refine wA ?_|clear hK K)
  rw [eS]
  (refine aq ?_ ?_ ?_<;>simp only [aG,UG,UH,UN,UO,bd,bj,AV.v.injEq,Value.int.injEq,Value.bool.injEq,Value.string.injEq,AV.vec.injEq,AV.ptr.injEq,true_or,or_true,false_or,or_false,aa.mk.injEq,forall_eq_apply_imp_iff,forall_eq,forall_eq',go_sem])
 ·intro _;have e1:(ai a).take (ai a).length=ai a:=List.take_length
  repeat (first|(with_reducible first|refine ag.up ?_|refine fun (K:AK) hK=> ?_|refine wE ?_|refine wK ?_|refine wF ?_|(refine hK _ ?_;clear hK K))|simp only [go_sem,e1]|with_reducible refine wA ?_|clear hK K)
  (refine ⟨?_, ?_, ?_⟩<;>simp only [bd,bj,AV.v.injEq,Value.int.injEq,Value.bool.injEq,Value.string.injEq,AV.vec.injEq,AV.ptr.injEq,true_or,or_true,false_or,or_false,aa.mk.injEq,forall_eq_apply_imp_iff,forall_eq,forall_eq',go_sem])
structure G9 where
 st:bE
 op:Bool
 ends:BitVec 32
 first:BitVec 32
def b9 (x:Ex) (b:bE×BitVec 32×BitVec 32) (r:G9):G9:=
 ⟨{ b.1 with fs:=jR b.2.1 (ai r.ends) b.1.fs },if aT x then r.op else false,(if aT x then r.ends else 0#32) ||| b.2.2,if r.op then r.first ||| b.2.1 else r.first⟩
mutual
def mw:Ex->bE->bE×BitVec 32×BitVec 32
 | .mk k s l,st=>
  if k=1 then ({ st with ae:=st.ae++[s] },ofM ((st.ae.length+1:Nat):Int),ofM ((st.ae.length+1:Nat):Int))
  else if k=2 then ((fl l ⟨st,true,0#32,0#32⟩).st,(fl l ⟨st,true,0#32,0#32⟩).first,(fl l ⟨st,true,0#32,0#32⟩).ends)
  else if k=4∨k=5 then ({ (dW l (st,0#32,0#32)).1 with fs:=jR (dW l (st,0#32,0#32)).2.1 (ai (dW l (st,0#32,0#32)).2.2) (dW l (st,0#32,0#32)).1.fs },(dW l (st,0#32,0#32)).2.1,(dW l (st,0#32,0#32)).2.2)
  else dW l (st,0#32,0#32)
def fl:List Ex->G9->G9
 | [],r=>r
 | x :: xs,r=>fl xs (b9 x (mw x r.st) r)
def dW:List Ex->bE×BitVec 32×BitVec 32->bE×BitVec 32×BitVec 32
 | [],r=>r
 | x :: xs,r=>dW xs ((mw x r.1).1,r.2.1 ||| (mw x r.1).2.1,r.2.2 ||| (mw x r.1).2.2)
end
theorem wo: ∀(l m:List Ex) (r:G9),fl (l++m) r=fl m (fl l r)
 | [],m,r=>by simp [fl]
 | x :: l,m,r=>by simp only [UP,fl];exact wo l m _
theorem wm: ∀(l m:List Ex) (r:bE×BitVec 32×BitVec 32),dW (l++m) r=dW m (dW l r)
 | [],m,r=>by simp [dW]
 | x :: l,m,r=>by simp only [UP,dW];exact wm l m _
theorem nR {fs:List (BitVec 32)} {p q:Nat} {x:BitVec 32} (h:p<fs.length):(fs.set p x).getD q 0#32=if q=p then x else fs.getD q 0#32:=by
 simp only [List.getD,List.getElem?_set]
 by_cases e:p=q
 ·subst e;simp [h]
 ·rw [if_neg e,if_neg (fun h=>e h.symm)]
theorem qO {b:BitVec 32}: ∀ {l:List Nat} {fs:List (BitVec 32)} {p q:Nat},(∀j∈l,j<fs.length)->(((jR b l fs).getD p 0#32).getLsbD q=true↔(fs.getD p 0#32).getLsbD q=true∨(p∈l∧b.getLsbD q=true))
 | [],fs,p,q,_=>by simp [jR]
 | j :: l,fs,p,q,hl=>by
  have hj:j<fs.length:=hl j (by simp);rw [jR,UG, <- jR,qO (fun k hk=>by rw [C0,List.length_set];exact hl k (by simp [hk])),C0,nR hj,List.mem_cons]
  by_cases e:p=j
  ·subst e;simp only [if_true,VC,Uk,true_or,true_and]
   constructor
   ·rintro ((h|h)|⟨_,h⟩)
    ·exact .inl h
    ·exact .inr h
    ·exact .inr h
   ·rintro (h|h)
    ·exact .inl (.inl h)
    ·exact .inl (.inr h)
  ·rw [if_neg e];simp [e]
structure Kx (x:Ex) (st:bE) (r:bE×BitVec 32×BitVec 32):Prop where
 ae:r.1.ae=st.ae++aX x
 len:r.1.fs.length=25
 la:r.1.la=st.la
 em:r.1.em=st.em
 fst: ∀p,r.2.1.getLsbD p=true↔kL x st.ae.length p
 vI: ∀p,r.2.2.getLsbD p=true↔ja x st.ae.length p
 qv: ∀p q,(r.1.fs.getD p 0#32).getLsbD q=true↔(st.fs.getD p 0#32).getLsbD q=true∨iD x st.ae.length p q
structure PY (l:List Ex) (r R:G9):Prop where
 ae:R.st.ae=r.st.ae++aE l
 len:R.st.fs.length=25
 la:R.st.la=r.st.la
 em:R.st.em=r.st.em
 op:R.op=(r.op&&cH l)
 fst: ∀p,R.first.getLsbD p=true↔r.first.getLsbD p=true∨(r.op=true∧fW l r.st.ae.length p)
 vI: ∀p,R.ends.getLsbD p=true↔(cH l=true∧r.ends.getLsbD p=true)∨iF l r.st.ae.length p
 qv: ∀p q,(R.st.fs.getD p 0#32).getLsbD q=true↔(r.st.fs.getD p 0#32).getLsbD q=true∨fV l r.st.ae.length p q∨(r.ends.getLsbD p=true∧fW l r.st.ae.length q)
structure PQ (l:List Ex) (r R:bE×BitVec 32×BitVec 32):Prop where
 ae:R.1.ae=r.1.ae++aE l
 len:R.1.fs.length=25
 la:R.1.la=r.1.la
 em:R.1.em=r.1.em
 fst: ∀p,R.2.1.getLsbD p=true↔r.2.1.getLsbD p=true∨fG l r.1.ae.length p
 vI: ∀p,R.2.2.getLsbD p=true↔r.2.2.getLsbD p=true∨fH l r.1.ae.length p
 qv: ∀p q,(R.1.fs.getD p 0#32).getLsbD q=true↔(r.1.fs.getD p 0#32).getLsbD q=true∨gU l r.1.ae.length p q
theorem qd: ∀(l:List Ex) (r:G9),(∀x∈l, ∀st,st.fs.length=25->st.ae.length+(aX x).length<=24->Kx x st (mw x st))->r.st.fs.length=25->(∀p∈ai r.ends,p<25)->r.st.ae.length+(aE l).length<=24->PY l r (fl l r)
 | [],r,_,hf,he,hb=>by
  rw [fl];exact ⟨by simp [aE],hf,rfl,rfl,by simp [cH],fun p=>by simp [fW],fun p=>by simp [iF,cH],fun p q=>by simp [fV,fW]⟩
 | x :: xs,r,hx,hf,he,hb=>by
  rw [aE,List.length_append] at hb;have B:=hx x (by simp) r.st hf (by omega);generalize hbx:mw x r.st=b at B
  have hlen:(r.st.ae++aX x).length=r.st.ae.length+(aX x).length:=by simp
  have hends: ∀p∈ai ((b9 x b r).ends),p<25:=fun p hp=>by
   have:=aK.1 hp
   simp only [b9] at this;rw [VC,Uk,B.vI] at this
   rcases this with h|h
   ·split at h
    ·exact he p (aK.2 h)
    ·simp at h
   ·have:=eb x h;omega
  have S:=qd xs (b9 x b r) (fun y hy=>hx y (by simp [hy])) (by simp only [b9,mN];exact B.len) hends (by simp only [b9,B.ae,hlen];omega)
  have hfol: ∀p q,((b9 x b r).st.fs.getD p 0#32).getLsbD q=true↔((r.st.fs.getD p 0#32).getLsbD q=true∨iD x r.st.ae.length p q)∨(r.ends.getLsbD p=true∧kL x r.st.ae.length q):=fun p q=>by
   show ((jR _ _ _).getD p 0#32).getLsbD q=true↔_;rw [qO (fun j hj=>by rw [B.len];exact he j hj),B.qv,B.fst,aK]
  have hl2:(b9 x b r).st.ae.length=r.st.ae.length+(aX x).length:=by simp only [b9,B.ae,hlen]
  have hE: ∀p,(b9 x b r).ends.getLsbD p=true↔(aT x=true∧r.ends.getLsbD p=true)∨ja x r.st.ae.length p:=fun p=>by
   simp only [b9];rw [VC,Uk,B.vI];cases aT x<;>simp
  have hF: ∀p,(b9 x b r).first.getLsbD p=true↔r.first.getLsbD p=true∨(r.op=true∧kL x r.st.ae.length p):=fun p=>by
   simp only [b9]
   cases r.op
   ·simp
   ·simp only [if_true,VC,Uk,B.fst,true_and]
  have hO:(b9 x b r).op=(r.op&&aT x):=by simp only [b9];cases r.op<;>cases aT x<;>rfl
  rw [fl,hbx]
  refine ⟨?_,S.len, ?_, ?_, ?_,fun p=> ?_,fun p=> ?_,fun p q=> ?_⟩
  ·rw [S.ae];simp only [b9];rw [B.ae,aE,List.append_assoc]
  ·rw [S.la];exact B.la
  ·rw [S.em];exact B.em
  ·rw [S.op,hO,cH,Bool.and_assoc]
  ·rw [S.fst,hF,hO,hl2,fW];grind
  ·rw [S.vI,hE,hl2,iF,cH];grind
  ·rw [S.qv,hfol,hE,hl2,fW,fV];grind
theorem qc: ∀(l:List Ex) (r:bE×BitVec 32×BitVec 32),(∀x∈l, ∀st,st.fs.length=25->st.ae.length+(aX x).length<=24->Kx x st (mw x st))->r.1.fs.length=25->r.1.ae.length+(aE l).length<=24->PQ l r (dW l r)
 | [],r,_,hf,hb=>by
  rw [dW];exact ⟨by simp [aE],hf,rfl,rfl,fun p=>by simp [fG],fun p=>by simp [fH],fun p q=>by simp [gU]⟩
 | x :: xs,r,hx,hf,hb=>by
  rw [aE,List.length_append] at hb;have B:=hx x (by simp) r.1 hf (by omega);rw [dW];generalize mw x r.1=b at B ⊢
  have hlen:b.1.ae.length=r.1.ae.length+(aX x).length:=by rw [B.ae];simp
  have A:=qc xs (b.1,r.2.1 ||| b.2.1,r.2.2 ||| b.2.2) (fun y hy=>hx y (by simp [hy])) B.len (by rw [hlen];omega)
  refine ⟨?_,A.len, ?_, ?_,fun p=> ?_,fun p=> ?_,fun p q=> ?_⟩
  ·rw [A.ae,B.ae,aE,List.append_assoc]
  ·rw [A.la];exact B.la
  ·rw [A.em];exact B.em
  ·rw [A.fst,hlen,fG,VC,Uk,B.fst];grind
  ·rw [A.vI,hlen,fH,VC,Uk,B.vI];grind
  ·rw [A.qv,hlen,gU,B.qv];grind
theorem my (x:Ex): ∀st:bE,st.fs.length=25->st.ae.length+(aX x).length<=24->Kx x st (mw x st):=by
 induction x using Ex.ind with
 | h k s l ih=>
  intro st hf hb
  by_cases h1:k=1
  ·subst h1
   have hl:aX (.mk 1 s l)=[s]:=by rw [aX,if_pos rfl]
   rw [hl] at hb;simp only [List.length_singleton] at hb
   have hp: ∀p,(ofM ((st.ae.length+1:Nat):Int)).getLsbD p=true↔p=st.ae.length+1:=fun p=>by
    rw [mQ,decide_eq_true_eq];omega
   rw [mw,if_pos rfl];exact ⟨by rw [hl],hf,rfl,rfl,fun p=>by rw [kL,if_pos rfl];exact hp p,fun p=>by rw [ja,if_pos rfl];exact hp p,fun p q=>by rw [iD,if_pos rfl,or_false]⟩
  ·rw [db h1] at hb;rw [mw,if_neg h1]
   by_cases h2:k=2
   ·subst h2;rw [if_pos rfl];have S:=qd l ⟨st,true,0#32,0#32⟩ ih hf (by rw [jj];intro p hp;cases hp) hb
    refine ⟨by rw [db h1];exact S.ae,S.len,S.la,S.em,fun p=> ?_,fun p=> ?_,fun p q=> ?_⟩
    ·rw [kL,if_neg h1,if_pos rfl,S.fst];simp
    ·rw [ja,if_neg h1,if_pos rfl,S.vI];simp
    ·rw [iD,if_neg h1,if_pos rfl,S.qv];simp
   ·rw [if_neg h2];have A:=qc l (st,0#32,0#32) ih hf hb
    have hF: ∀p,kL (.mk k s l) st.ae.length p↔fG l st.ae.length p:=fun p=>by rw [kL,if_neg h1,if_neg h2]
    have hL: ∀p,ja (.mk k s l) st.ae.length p↔fH l st.ae.length p:=fun p=>by rw [ja,if_neg h1,if_neg h2]
    have aF: ∀p,(dW l (st,0#32,0#32)).2.1.getLsbD p=true↔fG l st.ae.length p:=fun p=>by rw [A.fst];simp
    have aL: ∀p,(dW l (st,0#32,0#32)).2.2.getLsbD p=true↔fH l st.ae.length p:=fun p=>by rw [A.vI];simp
    by_cases h4:k=4∨k=5
    ·rw [if_pos h4];refine ⟨by rw [db h1];exact A.ae,by rw [mN];exact A.len,A.la,A.em,fun p=>by rw [hF,aF],fun p=>by rw [hL,aL],fun p q=> ?_⟩;show ((jR _ _ _).getD p 0#32).getLsbD q=true↔_
     rw [qO (fun j hj=>by
      have:=dV ((aL j).1 (aK.1 hj))
      rw [A.len];omega),A.qv,aF,aK,aL,iD,if_neg h1,if_neg h2]
     grind
    ·rw [if_neg h4];refine ⟨by rw [db h1];exact A.ae,A.len,A.la,A.em,fun p=>by rw [hF,aF],fun p=>by rw [hL,aL],fun p q=> ?_⟩;rw [A.qv,iD,if_neg h1,if_neg h2]
     grind
theorem tv (f:Nat->Nat) (l:List ByteArray):bI f (l.map encS)=l.map encS:=by
 induction l with
 | nil=>rfl
 | cons x l ih=>simp only [Vd,bI,ih];rfl
theorem bE.Gl (s:bE) (n:Nat):s.os.map (fun x=>some (x.map (aa.aO (sig [0,1] n))))=s.os.map some:=by
 simp only [bE.os,bE.row,ay,Vd,Vq,Option.map_some,aa.aO,bI,bo,AV.aO,vg,tv]
 rfl
theorem ab.L7 {P:Program} {f:FuncId} {args:List AV} {s s':bE} {tl:List (Option aa)} {r0:AV} {K:AV->List (Option aa)->Prop} (h:aR P f args s.os r0 s'.os) (hargs:bo (sig [0,1] (tl.length+2)) args=args) (hwa:ba 2 args=true) (hr:r0.aO (sig [0,1] (tl.length+2))=r0)
  (k:K r0 (s'.os++tl)):ab P f args (s.os++tl) K:=by
 have hn:(s.os++tl).length=tl.length+2:=by simp [bE.os]
 refine ab.fr [0,1] h (by decide) ?_ ?_ hwa ?_ ?_
 ·rw [bE.Gl];simp [bE.os]
 ·rw [hn,hargs]
 ·intro i ob hi
  match i,hi with
  | 0,hi=>cases hi;simp only [bE.row,ay,bQ,ba,AV.wf,Ap];rfl
  | 1,hi=>cases hi;exact bg _ (fun _=>rfl) _
  | i+2,hi=>simp [bE.os] at hi
 ·rw [hn,hr]
  have e:dE (sig [0,1] (tl.length+2)) [0,1] s'.os (s.os++tl)=s'.os++tl:=by
   have h:=s'.Gl (tl.length+2);simp only [bE.os,Vd,Vq,List.cons.injEq,Option.some.injEq,and_true] at h;simp only [bE.os,dE,h.1,h.2,UP,UQ,List.set_cons_zero,List.set_cons_succ,Vq,List.append_nil]
  rw [e];exact k
def Ec (x:Ex):Prop:= ∀st:bE,st.fs.length=25->st.ae.length+(aX x).length<=24 ->
 aR Tryz.prog 114 [.ptr 0 0 28 0 0, .agg (bH x)] st.os (.agg [ay (mw x st).2.1,ay (mw x st).2.2]) (mw x st).1.os
theorem nW: ∀(l m:List Ex),aE (l++m)=aE l++aE m
 | [],m=>by simp [aE]
 | x :: l,m=>by simp only [UP,aE,nW l m,List.append_assoc]
structure MJ (l:List Ex) (r:G9) (k:Nat) (S:G9):Prop where
 len:S.st.fs.length=25
 ends: ∀p∈ai S.ends,p<25
 ae: ∀h:k<l.length,S.st.ae.length+(aX l[k]).length<=24
theorem Lt {l:List Ex} {st:bE} (hf:st.fs.length=25) (hb:st.ae.length+(aE l).length<=24) (k:Nat):MJ l ⟨st,true,0#32,0#32⟩ k (fl (l.take k) ⟨st,true,0#32,0#32⟩):=by
 have e:aE l=aE (l.take k)++aE (l.drop k):=by rw [<-nW,VD]
 rw [e,Tb] at hb;have S:=qd (l.take k) ⟨st,true,0#32,0#32⟩ (fun x _=>my x) hf (by rw [jj];intro p hp;cases hp) (by show st.ae.length+(aE (l.take k)).length<=24;omega)
 refine ⟨S.len,fun p hp=> ?_,fun h=> ?_⟩
 ·rcases (S.vI p).1 (aK.1 hp) with h|h
  ·simp at h
  ·have h2:p<=st.ae.length+(aE (l.take k)).length:=(dV (tX h)).2;omega
 ·rw [S.ae,Tb];rw [US h,aE,Tb] at hb;simp only;omega
theorem Cn {l:List Ex} {k:Nat} (h:k<l.length) (r:G9):fl (l.take (k+1)) r=b9 l[k] (mw l[k] (fl (l.take k) r).st) (fl (l.take k) r):=by
 rw [VB h,wo];rfl
theorem Lu (l:List Ex) (hl:l.length<=24) (hk: ∀x∈l,x.ok∧aB x=true) (H: ∀x∈l,Ec x) (st:bE) (hf:st.fs.length=25) (hb:st.ae.length+(aE l).length<=24) :
  aR Tryz.prog 146 [.ptr 0 0 28 0 0, .aI 3 (l.map bH) l.length] st.os (.agg [ay (fl l ⟨st,true,0#32,0#32⟩).first,ay (fl l ⟨st,true,0#32,0#32⟩).ends]) (fl l ⟨st,true,0#32,0#32⟩).st.os:=by
 have e0:fl (l.take 0) ⟨st,true,0#32,0#32⟩=⟨st,true,0#32,0#32⟩:=rfl;have eZ:ay 0#32 = .v (.int .u32 0):=rfl;simp only [ay,bE.os,bE.row]
 (refine aR.enter Tryz.func146 rfl (by kernel_rfl) (by kernel_rfl) rfl ?_;simp only [Tryz.ntmps146,Tryz.results146,Tc,S6,Nat.reduceAdd,Nat.reduceSub,UN,UO,UP,UQ])
 repeat (first|(with_reducible first|refine ag.up ?_|refine fun (K:AK) hK=> ?_|(refine hK _ ?_;clear hK K))|simp only [go_sem]|with_reducible refine wA ?_|clear hK K)
 refine kP (ι:=Nat) (fun k=>[(0, .ptr 0 0 28 0 0),(4, .ptr 2 0 2 0 0),(5, .v (.bool (fl (l.take k) ⟨st,true,0#32,0#32⟩).op)),(6,ay (fl (l.take k) ⟨st,true,0#32,0#32⟩).ends),(10, .aI 3 (l.map bH) l.length),(11, .v (.int .i64 l.length)),(12, .v (.int .i64 k))])
  (fun k=>(fl (l.take k) ⟨st,true,0#32,0#32⟩).st.os++[some ⟨190,2,false,[[ay (fl (l.take k) ⟨st,true,0#32,0#32⟩).first, .v (.int .u32 0)]]⟩]) (fun k=>l.length - k) (fun k=>k<=l.length) 0 (by omega) ?_ ?_
 ·simp only [e0,ay,bE.os,bE.row,UP,UQ]
  (refine aq ?_ ?_ ?_<;>simp only [aG,UG,UH,UN,UO,bd,bj,AV.v.injEq,Value.int.injEq,Value.bool.injEq,Value.string.injEq,AV.vec.injEq,AV.ptr.injEq,true_or,or_true,false_or,or_false,aa.mk.injEq,forall_eq_apply_imp_iff,forall_eq,forall_eq',go_sem])
  ·exact ⟨rfl,rfl⟩
  ·rfl
 ·intro k hkl K hK;have A:=Lt hf hb k;generalize hS:fl (l.take k) ⟨st,true,0#32,0#32⟩=S at A ⊢;simp only [ay,bE.os,bE.row,UP,UQ];simp only [aG,UG,UH,UN,UO,go_sem]
  repeat (first|(with_reducible first|refine ag.up ?_|refine fun (K:AK) hK=> ?_|(refine hK _ ?_;clear hK K))|simp only [go_sem]|with_reducible refine wA ?_|clear hK K)
  refine fU.part (fun h=> ?_) (fun h=> ?_)
  ·have hlt:k<l.length:=by (try simp only [bne_iff_ne,ne_eq,bne_eq_false_iff_eq,beq_iff_eq,beq_eq_false_iff_ne,decide_eq_true_eq,decide_eq_false_iff_not,UR,Int.natCast_inj,VE,Int.ofNat_le] at h);omega
   have eG:=getD_map bH l k [] hlt;have eW:=aD (k:=k) (by omega);have C1:=H l[k] (Uy hlt) S.st A.len (A.ae hlt);have B:=my l[k] S.st A.len (A.ae hlt);have hx:=hk l[k] (Uy hlt);have C3:=tV l[k] hx.1;rw [di,hx.2,Us] at C3
   have hNext:fl (l.take (k+1)) ⟨st,true,0#32,0#32⟩=b9 l[k] (mw l[k] S.st) S:=by rw [Cn hlt,hS]
   generalize l[k]=x at *;generalize mw x S.st=b at *;have C2:=FG b.1 S.ends b.2.1 B.len A.ends;simp only [aS] at eG C1 C3;simp only [ay] at C1 C2
   have wE:ba 2 [.ptr 0 0 28 0 0, .agg [.v (.int .i64 x.kind), .v (.string x.label), .aI 3 (x.kids.map bH) x.kids.length]]=true:=by simp only [ba,AV.wf,fF,UM,Us];rfl
   have rE: ∀f:Nat->Nat,f 0=0->bo f [.ptr 0 0 28 0 0, .agg [.v (.int .i64 x.kind), .v (.string x.label), .aI 3 (x.kids.map bH) x.kids.length]]=[.ptr 0 0 28 0 0, .agg [.v (.int .i64 x.kind), .v (.string x.label), .aI 3 (x.kids.map bH) x.kids.length]]:=fun f hf=>by
    simp only [bo,AV.aO,hf,bc f _ (fF 0 x.kids)]
   repeat (first|(with_reducible first|refine ag.up ?_|refine fun (K:AK) hK=> ?_|(refine hK _ ?_;clear hK K))|simp only [go_sem,eG]|with_reducible refine wA ?_|clear hK K)
   refine ab.L7 C1 (rE _ rfl) wE rfl ?_;simp only [bE.os,bE.row,ay,UP,UQ];obtain ⟨sS,op,en,fi⟩:=S;simp only at *
   repeat (first|(with_reducible first|refine ag.up ?_|refine fun (K:AK) hK=> ?_|(refine hK _ ?_;clear hK K))|simp only [go_sem]|with_reducible refine wA ?_|clear hK K)
   refine ab.L7 C2 rfl rfl rfl ?_;simp only [bE.os,bE.row,ay,UP,UQ];cases op<;>cases hem:aT x
   all_goals
    rw [hem] at C3
    repeat (first|(with_reducible first|refine ag.up ?_|refine fun (K:AK) hK=> ?_|(refine hK _ ?_;clear hK K))|simp only [go_sem,jv]|with_reducible refine wA ?_|clear hK K)
    refine ab.one C3 ?_
    repeat (first|(with_reducible first|refine ag.up ?_|refine fun (K:AK) hK=> ?_|(refine hK _ ?_;clear hK K))|simp only [go_sem,jv]|with_reducible refine wA ?_|clear hK K)
    refine aP.mk (k+1) (by omega) (by omega) ?_;rw [hNext];simp only [b9,hem,bE.os,bE.row,ay,UP,UQ,if_true,if_false,Bool.false_eq_true]
    (refine aq ?_ ?_ ?_<;>simp only [aG,UG,UH,UN,UO,bd,bj,AV.v.injEq,Value.int.injEq,Value.bool.injEq,Value.string.injEq,AV.vec.injEq,AV.ptr.injEq,true_or,or_true,false_or,or_false,aa.mk.injEq,forall_eq_apply_imp_iff,forall_eq,forall_eq',go_sem])
    all_goals first|exact eW|exact ⟨jv 0#32 _,eW⟩|exact ⟨jv _ _,eW⟩
  ·have hkl':k=l.length:=by (try simp only [bne_iff_ne,ne_eq,bne_eq_false_iff_eq,beq_iff_eq,beq_eq_false_iff_ne,decide_eq_true_eq,decide_eq_false_iff_not,UR,Int.natCast_inj,VE,Int.ofNat_le] at h);omega
   have eT:fl l ⟨st,true,0#32,0#32⟩=S:=by rw [<-hS,hkl',List.take_length]
   repeat (first|(with_reducible first|refine ag.up ?_|refine fun (K:AK) hK=> ?_|(refine hK _ ?_;clear hK K))|simp only [go_sem]|with_reducible refine wA ?_|clear hK K)
   (refine ⟨?_, ?_, ?_⟩<;>simp only [bd,bj,AV.v.injEq,Value.int.injEq,Value.bool.injEq,Value.string.injEq,AV.vec.injEq,AV.ptr.injEq,true_or,or_true,false_or,or_false,aa.mk.injEq,forall_eq_apply_imp_iff,forall_eq,forall_eq',go_sem])
   ·rw [eT]
   ·rw [eT];exact ⟨rfl,rfl⟩
theorem Cm {l:List Ex} {k:Nat} (h:k<l.length) (r:bE×BitVec 32×BitVec 32):dW (l.take (k+1)) r=((mw l[k] (dW (l.take k) r).1).1,(dW (l.take k) r).2.1 ||| (mw l[k] (dW (l.take k) r).1).2.1,(dW (l.take k) r).2.2 ||| (mw l[k] (dW (l.take k) r).1).2.2):=by
 rw [VB h,wm];rfl
structure Mv (l:List Ex) (k:Nat) (S:bE×BitVec 32×BitVec 32):Prop where
 len:S.1.fs.length=25
 vI: ∀p∈ai S.2.2,p<25
 ae: ∀h:k<l.length,S.1.ae.length+(aX l[k]).length<=24
theorem KK {l:List Ex} {st:bE} (hf:st.fs.length=25) (hb:st.ae.length+(aE l).length<=24) (k:Nat):Mv l k (dW (l.take k) (st,0#32,0#32)):=by
 have e:aE l=aE (l.take k)++aE (l.drop k):=by rw [<-nW,VD]
 rw [e,Tb] at hb;have S:=qc (l.take k) (st,0#32,0#32) (fun x _=>my x) hf (by show st.ae.length+(aE (l.take k)).length<=24;omega)
 refine ⟨S.len,fun p hp=> ?_,fun h=> ?_⟩
 ·rcases (S.vI p).1 (aK.1 hp) with h|h
  ·simp at h
  ·have h2:p<=st.ae.length+(aE (l.take k)).length:=(dV h).2;omega
 ·rw [S.ae,Tb];rw [US h,aE,Tb] at hb;simp only;omega
theorem Ac {k:Int} {s:ByteArray} {l:List Ex} (h:aB (.mk k s l)=true): ∀x∈l,aB x=true:=fun x hx=>by
 simp only [aB,Bool.and_eq_true,decide_eq_true_eq,List.all_eq_true] at h ⊢
 have hs: ∀y,y∈au x->y∈au (.mk k s l):=fun y hy=>by
  rw [au,bS];exact List.mem_cons_of_mem _ (List.mem_flatMap.2 ⟨x,hx,hy⟩)
 refine ⟨?_,fun y hy=>h.2 y (hs y hy)⟩
 have:=oa (.mk k s l) x (hs x (by obtain ⟨k',s',l'⟩:=x;rw [au];exact List.mem_cons_self))
 omega
theorem Bh: ∀ {l:List Ex},oR l-> ∀x∈l,x.ok
 | [],_,x,hx=>by cases hx
 | y :: l,h,x,hx=>by
  rw [oR] at h
  rcases List.mem_cons.1 hx with rfl|hx
  ·exact h.1
  ·exact Bh h.2 x hx
theorem Lf (x:Ex) (ho:x.ok) (hr:aB x=true):Ec x:=by
 induction x using Ex.ind with
 | h k s l ih=>
  intro st hf hb;have hkid: ∀x∈l,x.ok∧aB x=true:=fun x hx=>⟨Bh (by rw [Ex.ok] at ho;exact ho.2) x hx,Ac hr x hx⟩;have H: ∀x∈l,Ec x:=fun x hx=>ih x hx (hkid x hx).1 (hkid x hx).2
  have hl:l.length<=24:=by
   simp only [aB,Bool.and_eq_true,decide_eq_true_eq] at hr
   have:=uN (.mk k s l);simp only [Ex.kids] at this;omega
  by_cases h1:k=1
  ·subst h1;rw [aX,if_pos rfl] at hb;simp only [List.length_singleton] at hb;have C:=La ((st.ae.length+1:Nat):Int)
   have eL:(st.ae++[s]).map encS=st.ae.map encS++[[.v (.string s)]]:=by simp [encS]
   have eN:(st.ae++[s]).length=st.ae.length+1:=by simp
   rw [mw,if_pos rfl];simp only [aS,Ex.kind,Ex.label,Ex.kids,ay,bE.os,bE.row,eL,eN] at C ⊢
   (refine aR.enter Tryz.func114 rfl (by kernel_rfl) (by kernel_rfl) rfl ?_;simp only [Tryz.ntmps114,Tryz.results114,Tc,S6,Nat.reduceAdd,Nat.reduceSub,UN,UO,UP,UQ])
   repeat ((fail_if_success (with_reducible refine b5 (i:=3) ?_));first|(with_reducible first|refine ag.up ?_|refine fun (K:AK) hK=> ?_|refine ah (by decide) ?_|refine ar (by decide) ?_|(refine hK _ ?_;clear hK K))|simp only [go_sem,Go.undef]|with_reducible refine wA ?_|(refine aH rfl ?_)|(refine aA rfl ?_)|clear hK K)
   refine du [8,11] [] (by decide+kernel) (by kernel_rfl) ?_
   repeat (first|(with_reducible first|refine ag.up ?_|refine fun (K:AK) hK=> ?_|refine ah (by decide) ?_|refine ar (by decide) ?_|(refine hK _ ?_;clear hK K))|simp only [go_sem]|with_reducible refine wA ?_|(refine aH rfl ?_)|(refine aA rfl ?_)|clear hK K)
   refine ab.one C ?_
   repeat (first|(with_reducible first|refine ag.up ?_|refine fun (K:AK) hK=> ?_|refine ah (by decide) ?_|refine ar (by decide) ?_|(refine hK _ ?_;clear hK K))|simp only [go_sem]|with_reducible refine wA ?_|(refine aH rfl ?_)|(refine aA rfl ?_)|clear hK K)
   (refine ⟨?_, ?_, ?_⟩<;>simp only [bd,bj,AV.v.injEq,Value.int.injEq,Value.bool.injEq,Value.string.injEq,AV.vec.injEq,AV.ptr.injEq,true_or,or_true,false_or,or_false,aa.mk.injEq,forall_eq_apply_imp_iff,forall_eq,forall_eq',go_sem])
  ·have f1:(k==1)=false:=beq_false_of_ne h1;rw [db h1] at hb;rw [mw,if_neg h1]
   have wE:ba 2 [.ptr 0 0 28 0 0, .aI 3 (l.map bH) l.length]=true:=by simp only [ba,AV.wf,fF,UM,Us];rfl
   have rE: ∀f:Nat->Nat,f 0=0->bo f [.ptr 0 0 28 0 0, .aI 3 (l.map bH) l.length]=[.ptr 0 0 28 0 0, .aI 3 (l.map bH) l.length]:=fun f hf=>by
    simp only [bo,AV.aO,hf,bc f _ (fF 0 l)]
   by_cases h2:k=2
   ·subst h2;have C:=Lu l hl hkid H st hf hb;rw [if_pos rfl];generalize fl l ⟨st,true,0#32,0#32⟩=R at *;simp only [aS,Ex.kind,Ex.label,Ex.kids,ay] at C ⊢
    (refine aR.enter Tryz.func114 rfl (by kernel_rfl) (by kernel_rfl) rfl ?_;simp only [Tryz.ntmps114,Tryz.results114,Tc,S6,Nat.reduceAdd,Nat.reduceSub,UN,UO,UP,UQ])
    repeat ((fail_if_success (with_reducible refine b5 (i:=3) ?_));first|(with_reducible first|refine ag.up ?_|refine fun (K:AK) hK=> ?_|refine ah (by decide) ?_|refine ar (by decide) ?_|(refine hK _ ?_;clear hK K))|simp only [go_sem,f1,bE.os,bE.row,ay]|with_reducible refine wA ?_|(refine aH rfl ?_)|(refine aA rfl ?_)|clear hK K)
    refine ab.L7 C (rE _ rfl) wE rfl ?_;simp only [bE.os,bE.row,ay,UP,UQ]
    repeat (first|(with_reducible first|refine ag.up ?_|refine fun (K:AK) hK=> ?_|refine ah (by decide) ?_|refine ar (by decide) ?_|(refine hK _ ?_;clear hK K))|simp only [go_sem]|with_reducible refine wA ?_|(refine aH rfl ?_)|(refine aA rfl ?_)|clear hK K)
    (refine ⟨?_, ?_, ?_⟩<;>simp only [bd,bj,AV.v.injEq,Value.int.injEq,Value.bool.injEq,Value.string.injEq,AV.vec.injEq,AV.ptr.injEq,true_or,or_true,false_or,or_false,aa.mk.injEq,forall_eq_apply_imp_iff,forall_eq,forall_eq',go_sem])
   ·have f2:(k==2)=false:=beq_false_of_ne h2;rw [if_neg h2];have e0:dW (l.take 0) (st,0#32,0#32)=(st,0#32,0#32):=rfl;simp only [aS,Ex.kind,Ex.label,Ex.kids,ay]
    (refine aR.enter Tryz.func114 rfl (by kernel_rfl) (by kernel_rfl) rfl ?_;simp only [Tryz.ntmps114,Tryz.results114,Tc,S6,Nat.reduceAdd,Nat.reduceSub,UN,UO,UP,UQ])
    repeat ((fail_if_success (with_reducible refine b5 (i:=3) ?_));first|(with_reducible first|refine ag.up ?_|refine fun (K:AK) hK=> ?_|refine ah (by decide) ?_|refine ar (by decide) ?_|(refine hK _ ?_;clear hK K))|simp only [go_sem,f1,f2,bE.os,bE.row,ay]|with_reducible refine wA ?_|(refine aH rfl ?_)|(refine aA rfl ?_)|clear hK K)
    refine kP (ι:=Nat) (fun j=>[(0, .ptr 0 0 28 0 0),(3, .ptr 2 0 3 0 0),(4, .ptr 3 0 2 0 0),(40, .aI 3 (l.map bH) l.length),(41, .v (.int .i64 l.length)),(42, .v (.int .i64 j))])
     (fun j=>(dW (l.take j) (st,0#32,0#32)).1.os++[some ⟨25,3,false,[[.v (.int .i64 k), .v (.string s), .aI 3 (l.map bH) l.length]]⟩,some ⟨190,2,false,[[ay (dW (l.take j) (st,0#32,0#32)).2.1,ay (dW (l.take j) (st,0#32,0#32)).2.2]]⟩]) (fun j=>l.length - j) (fun j=>j<=l.length) 0 (by omega) ?_ ?_
    ·simp only [e0,ay,bE.os,bE.row,UP,UQ]
     (refine aq ?_ ?_ ?_<;>simp only [aG,UG,UH,UN,UO,bd,bj,AV.v.injEq,Value.int.injEq,Value.bool.injEq,Value.string.injEq,AV.vec.injEq,AV.ptr.injEq,true_or,or_true,false_or,or_false,aa.mk.injEq,forall_eq_apply_imp_iff,forall_eq,forall_eq',go_sem])
     all_goals first|rfl|exact ⟨rfl,rfl⟩
    ·intro j hjl K hK;have A:=KK hf hb j;generalize hS:dW (l.take j) (st,0#32,0#32)=S at A ⊢;simp only [ay,bE.os,bE.row,UP,UQ];simp only [aG,UG,UH,UN,UO,go_sem]
     repeat (first|(with_reducible first|refine ag.up ?_|refine fun (K:AK) hK=> ?_|refine ah (by decide) ?_|refine ar (by decide) ?_|(refine hK _ ?_;clear hK K))|simp only [go_sem]|with_reducible refine wA ?_|(refine aH rfl ?_)|(refine aA rfl ?_)|clear hK K)
     refine fU.part (fun h=> ?_) (fun h=> ?_)
     ·have hlt:j<l.length:=by (try simp only [decide_eq_true_eq,decide_eq_false_iff_not,VE] at h);omega
      have eG:=getD_map bH l j [] hlt;have eW:=aD (k:=j) (by omega);have C1:=H l[j] (Uy hlt) S.1 A.len (A.ae hlt);have hNext:=Cm hlt (st,0#32,0#32);rw [hS] at hNext;generalize l[j]=x at *;generalize mw x S.1=b at *;simp only [aS] at eG C1;simp only [ay] at C1
      have wX:ba 2 [.ptr 0 0 28 0 0, .agg [.v (.int .i64 x.kind), .v (.string x.label), .aI 3 (x.kids.map bH) x.kids.length]]=true:=by simp only [ba,AV.wf,fF,UM,Us];rfl
      have rX: ∀f:Nat->Nat,f 0=0->bo f [.ptr 0 0 28 0 0, .agg [.v (.int .i64 x.kind), .v (.string x.label), .aI 3 (x.kids.map bH) x.kids.length]]=[.ptr 0 0 28 0 0, .agg [.v (.int .i64 x.kind), .v (.string x.label), .aI 3 (x.kids.map bH) x.kids.length]]:=fun f hf=>by
       simp only [bo,AV.aO,hf,bc f _ (fF 0 x.kids)]
      obtain ⟨sS,fi,la⟩:=S;simp only at *
      repeat (first|(with_reducible first|refine ag.up ?_|refine fun (K:AK) hK=> ?_|refine ah (by decide) ?_|refine ar (by decide) ?_|(refine hK _ ?_;clear hK K))|simp only [go_sem,eG]|with_reducible refine wA ?_|(refine aH rfl ?_)|(refine aA rfl ?_)|clear hK K)
      refine ab.L7 C1 (rX _ rfl) wX rfl ?_;simp only [bE.os,bE.row,ay,UP,UQ]
      repeat ((fail_if_success (with_reducible refine b5 (i:=12) ?_));first|(with_reducible first|refine ag.up ?_|refine fun (K:AK) hK=> ?_|refine ah (by decide) ?_|refine ar (by decide) ?_|(refine hK _ ?_;clear hK K))|simp only [go_sem,jv]|with_reducible refine wA ?_|(refine aH rfl ?_)|(refine aA rfl ?_)|clear hK K)
      refine du [11,13] [(8,1000)] (by decide+kernel) (by kernel_rfl) ?_
      repeat (first|(with_reducible first|refine ag.up ?_|refine fun (K:AK) hK=> ?_|refine ah (by decide) ?_|refine ar (by decide) ?_|(refine hK _ ?_;clear hK K))|simp only [go_sem,jv]|with_reducible refine wA ?_|(refine aH rfl ?_)|(refine aA rfl ?_)|clear hK K)
      refine aP.mk (j+1) (by omega) (by omega) ?_;rw [hNext];simp only [bE.os,bE.row,ay,UP,UQ]
      (refine aq ?_ ?_ ?_<;>simp only [aG,UG,UH,UN,UO,bd,bj,AV.v.injEq,Value.int.injEq,Value.bool.injEq,Value.string.injEq,AV.vec.injEq,AV.ptr.injEq,true_or,or_true,false_or,or_false,aa.mk.injEq,forall_eq_apply_imp_iff,forall_eq,forall_eq',go_sem])
      all_goals first|exact eW|skip
     ·have hjl':j=l.length:=by (try simp only [decide_eq_true_eq,decide_eq_false_iff_not,VE] at h);omega
      have eT:dW l (st,0#32,0#32)=S:=by rw [<-hS,hjl',List.take_length]
      have C:=FG S.1 S.2.2 S.2.1 A.len A.vI;obtain ⟨sS,fi,la⟩:=S;simp only at *;simp only [ay] at C
      by_cases h4:k=4
      ·subst h4
       repeat (first|(with_reducible first|refine ag.up ?_|refine fun (K:AK) hK=> ?_|refine ah (by decide) ?_|refine ar (by decide) ?_|(refine hK _ ?_;clear hK K))|simp only [go_sem,Go.undef]|with_reducible refine wA ?_|(refine aH rfl ?_)|(refine aA rfl ?_)|clear hK K)
       refine ab.L7 C rfl rfl rfl ?_;simp only [bE.os,bE.row,ay,UP,UQ]
       repeat (first|(with_reducible first|refine ag.up ?_|refine fun (K:AK) hK=> ?_|refine ah (by decide) ?_|refine ar (by decide) ?_|(refine hK _ ?_;clear hK K))|simp only [go_sem]|with_reducible refine wA ?_|(refine aH rfl ?_)|(refine aA rfl ?_)|clear hK K)
       rw [eT];simp only [true_or,if_true,bE.os,bE.row,ay]
       (refine ⟨?_, ?_, ?_⟩<;>simp only [bd,bj,AV.v.injEq,Value.int.injEq,Value.bool.injEq,Value.string.injEq,AV.vec.injEq,AV.ptr.injEq,true_or,or_true,false_or,or_false,aa.mk.injEq,forall_eq_apply_imp_iff,forall_eq,forall_eq',go_sem])
      ·by_cases h5:k=5
       ·subst h5
        repeat (first|(with_reducible first|refine ag.up ?_|refine fun (K:AK) hK=> ?_|refine ah (by decide) ?_|refine ar (by decide) ?_|(refine hK _ ?_;clear hK K))|simp only [go_sem,Go.undef]|with_reducible refine wA ?_|(refine aH rfl ?_)|(refine aA rfl ?_)|clear hK K)
        refine ab.L7 C rfl rfl rfl ?_;simp only [bE.os,bE.row,ay,UP,UQ]
        repeat (first|(with_reducible first|refine ag.up ?_|refine fun (K:AK) hK=> ?_|refine ah (by decide) ?_|refine ar (by decide) ?_|(refine hK _ ?_;clear hK K))|simp only [go_sem]|with_reducible refine wA ?_|(refine aH rfl ?_)|(refine aA rfl ?_)|clear hK K)
        rw [eT];simp only [or_true,if_true,bE.os,bE.row,ay]
        (refine ⟨?_, ?_, ?_⟩<;>simp only [bd,bj,AV.v.injEq,Value.int.injEq,Value.bool.injEq,Value.string.injEq,AV.vec.injEq,AV.ptr.injEq,true_or,or_true,false_or,or_false,aa.mk.injEq,forall_eq_apply_imp_iff,forall_eq,forall_eq',go_sem])
       ·have f4:(k==4)=false:=beq_false_of_ne h4;have f5:(k==5)=false:=beq_false_of_ne h5
        repeat (first|(with_reducible first|refine ag.up ?_|refine fun (K:AK) hK=> ?_|refine ah (by decide) ?_|refine ar (by decide) ?_|(refine hK _ ?_;clear hK K))|simp only [go_sem,f4,f5,Go.undef]|with_reducible refine wA ?_|(refine aH rfl ?_)|(refine aA rfl ?_)|clear hK K)
        rw [eT];simp only [h4,h5,or_self,if_false,bE.os,bE.row,ay]
        (refine ⟨?_, ?_, ?_⟩<;>simp only [bd,bj,AV.v.injEq,Value.int.injEq,Value.bool.injEq,Value.string.injEq,AV.vec.injEq,AV.ptr.injEq,true_or,or_true,false_or,or_false,aa.mk.injEq,forall_eq_apply_imp_iff,forall_eq,forall_eq',go_sem])
end Go.Proofs.YtlhhccmopfamhaaGreatDoor
