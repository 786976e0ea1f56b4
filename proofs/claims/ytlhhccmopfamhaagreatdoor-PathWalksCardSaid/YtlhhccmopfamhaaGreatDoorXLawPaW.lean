/- Laws of what the row walks. -/
import Derived.Test.YtlhhccmopfamhaaGreatDoorXDfaE
import Derived.Shelf.Slices.CompactS
import Derived.Lib.RowBridge
import Derived.WideKeyEntry
import Derived.Shelf.SlMaps.Equal
import Derived.WalkKit
import Derived.ProofKit
import Derived.OpenShut
import Derived.Stop.Joined
set_option linter.unusedSimpArgs false
set_option linter.unusedVariables false
set_option maxRecDepth 100000
set_option maxHeartbeats 16000000
open Array renaming getElem?_eq_some_iff -> U2, toList_push -> Yd, toList_modify -> Ye
open Bool renaming and_self -> WT, and_eq_true -> VS, and_true -> Wg, true_and -> Wn, not_eq_eq_eq_not -> W5, false_eq_true -> Wy, false_and -> X6, and_false -> X7, true_or -> X9, false_or -> Ya, eq_iff_iff -> Xt, or_false -> Yi, or_true -> Yj, not_true -> Yk
open Classical renaming byContradiction -> XP
open List renaming length_map -> VW, length_cons -> U9, length_nil -> U3, nil_append -> WZ, cons_append -> WY, getElem?_toArray -> Vk, getElem?_cons_zero -> V7, getElem?_cons_succ -> WG, zip_cons_cons -> WH, zip_nil_left -> WI, foldl_cons -> WJ, foldl_nil -> WK, setIfInBounds_toArray -> WL, set_cons_succ -> WN, set_cons_zero -> WO, map_map -> XO, getElem?_eq_some_iff -> U4, getElem?_eq_getElem -> Vi, mem_cons -> Wr, not_mem_nil -> Wt, append_nil -> Wj, mem_map -> Wu, filter_cons_of_neg -> Xv, replicate_succ -> WW, replicate_zero -> WX, getD_eq_getElem?_getD -> VX, map_cons -> WR, drop_eq_getElem_cons -> Wv, map_nil -> Xb, drop_eq_nil_of_le -> VK, length_append -> U8, length_singleton -> XM, mem_cons_self -> V4, mem_cons_of_mem -> V2, getElem?_append_left -> U5, getElem?_set_ne -> Vp, getElem?_set_self -> Vq, map_append -> XK, length_set -> XG, mem_or_eq_of_mem_set -> X8, mem_append -> Ww, append_assoc -> Vv, mem_singleton -> Xq, getElem?_append_right -> Vy, take_succ_eq_append_getElem -> Xe, take_of_length_le -> W4, mem_of_getElem? -> VD, take_length -> Xc, length_filter_le -> Yl
open Nat renaming le_refl -> UZ, le_succ -> X2, lt_or_ge -> U6, zero_le -> Va, mul_le_mul -> Yh, lt_add_one -> XB, zero_lt_one -> XE
open Option renaming getD_none -> X3, isSome_none -> X4, map_some -> VB, getD_some -> XN, isSome_some -> X5, map_none -> Yg
open Go.ChangeMaps renaming modify_eq_set -> Yf
open Go.WideElems renaming findIdx_arr -> Yb, findIdx_born -> Yc
open Option.some renaming injEq -> Ve
namespace Go.Proofs.YtlhhccmopfamhaaGreatDoor
open Go.RowKit
section
open Go.RowKit Go.Shelf
def JV:Go.Shelf.Ren:=⟨fun|194=>116|n=>n,fun|31=>55|9=>9|3=>3|4=>4|0=>0|n=>n,fun n=>n⟩
theorem xA:Lays.n194 Tryz.prog JV:={
 mixed:=by kernel_rfl
 f194:=Tryz.func116
 t0:=by kernel_rfl
 a0:=fun w=>by kernel_rfl
 z0:=fun w=>by kernel_rfl
 v0:=fun w=>by kernel_rfl
 t3:=by kernel_rfl
 a3:=fun w=>by kernel_rfl
 z3:=fun w=>by kernel_rfl
 v3:=fun w=>by kernel_rfl
 t4:=by kernel_rfl
 a4:=fun w=>by kernel_rfl
 z4:=fun w=>by kernel_rfl
 v4:=fun w=>by kernel_rfl
 t9:=by kernel_rfl
 a9:=fun w=>by kernel_rfl
 z9:=fun w=>by kernel_rfl
 v9:=fun w=>by kernel_rfl
 t31:=by kernel_rfl
 a31:=fun w=>by kernel_rfl
 z31:=fun w=>by kernel_rfl
 v31:=fun w=>by kernel_rfl }
attribute [local go_sem] Oper.semAt_some
def mI (l:List XC):List ByteArray:=(l.filter (fun c=>c.kind==1)).map (fun c=>c.label)
theorem El (l:List XC) (c:XC):mI (l++[c])=if c.kind=1 then mI l++[c.label] else mI l:=by
 by_cases h:c.kind=1<;>simp [mI,h]
theorem yh (l:List XC):(mI l).length<=l.length:=by
 rw [mI,VW];exact List.length_filter_le _ _
def pc (x:Ex):List (List UInt8):=Go.Lib.compact (((bj x).map (fun s=>s.data.toList)).mergeSort (fun x y=>decide (x<=y)))
def ck (x:Ex):List ByteArray:=(pc x).map (fun l=>⟨l.toArray⟩)
open Go.Sort in
theorem AI (x:Ex) (cx:List Value) (w:World) (hx:dZ w x cx) (hok:x.ok) (hR:aI x=true) (hN:(az x).length<=1000000) (hE: ∀L:List XC,L.map XC.sig=(az x).map Ex.sig->mI L=bj x) :
  Calls Tryz.prog 83 #[.agg cx.toArray] w fun e w'=> ∃v,e = .returned v∧mj w' (ck x) v∧Below w.heap.size w w'∧ ∀b off n c,v = .slice (some ⟨b,off,none⟩) n c->w.heap.size<=b:=by
 have HRt:=Lib.hid (fun W hb=>hR ▸ sN x cx W (hx.below hb) hok);obtain ⟨k,s,kids⟩:=x;have hx':=hx;rw [dZ] at hx;obtain ⟨sv,rfl,hr⟩:=hx;obtain ⟨p,c,rfl, -, -⟩:=hr.shape;refine (callsIn_wide (n:=9)).1 ?_;have HX:=Lib.hid hx';have HO:=Lib.hid hok;have HN:=Lib.hid hN;have HE:=Lib.hid hE;clear hx' hok hN hr hE;obtain ⟨i0,hi,hz0,hz1,hz2⟩:=info_parts Kg;have HI:=Lib.hid (show _∧_∧_∧_ from ⟨hi,hz0,hz1,hz2⟩);clear hi hz0 hz1 hz2;refine callsIn_of_wp_marks Tryz.func83 rfl trivial ?_ rfl;simp only [Tryz.ntmps83,List.size_toArray,U9,U3,Nat.reduceAdd,Nat.reduceSub,Array.replicate_succ,Array.replicate_zero,List.push_toArray,List.append_toArray,WZ,WY]
 gi_wp2_with fail
 refine ⟨trivial,(callsIn_wide.2 (HRt.out _ (((Below.refl w.heap.size w).alloc (UZ _) _).alloc (by simp) _))).mono ?_⟩;rintro e w1 ⟨rfl,hb1⟩;have HB1:=Lib.hid hb1;clear hb1;have hxb:w1.heap[w.heap.size]? = some (.cells #[.int .i64 k, .string s, .slice p kids.length c] 25 (0,0)):=(HB1.out.block w.heap.size (by simp;omega)).trans (iI (dG w (.cells #[.int .i64 k, .string s, .slice p kids.length c] 25)) _);have hob:w1.heap[w.heap.size+1]? = some (.cells #[.slice none 0 0] 55 (0,0)):=(HB1.out.block (w.heap.size+1) (by simp)).trans (by have:=dG (w.alloc (.cells #[.int .i64 k, .string s, .slice p kids.length c] 25)) (.cells #[.slice none 0 0] 55);simpa using this);have hx0:=au hxb 0;have hx1:=au hxb 1;have hx2:=au hxb 2;simp only [Vk,V7,WG] at hx0 hx1 hx2
 gi_wp2_with fail
 refine ⟨trivial, ?_⟩;refine (callsIn_wide.2 (uj _ _ _ _ _ _)).mono ?_;rintro e w' ⟨rfl,rfl⟩
 gi_wp2_with fail
 have hn1:w.heap.size+2<=w1.heap.size:=by simpa using HB1.out.size
 obtain ⟨W0,hW0⟩: ∃W0,w1.alloc (.cells #[.int .i64 k, .string s, .slice p kids.length c] 25)=W0:=⟨_,rfl⟩
 have hs0:W0.heap.size=w1.heap.size+1:=by rw [<-hW0];simp
 have hb01:Below w1.heap.size w1 W0:=by rw [<-hW0];exact (Below.refl _ _).alloc (UZ _) _
 have hb0:Below w.heap.size w W0:=cQ (cQ (((Below.refl w.heap.size w).alloc (UZ _) _).alloc (by simp) _) HB1.out) hb01;have hbo:W0.heap[w.heap.size+1]? = some (.cells #[.slice none 0 0] 55 (0,0)):=(hb01.block _ (by omega)).trans hob
 have hbp:W0.heap[w1.heap.size]? = some (.cells #[.int .i64 k, .string s, .slice p kids.length c] 25 (0,0)):=by rw [<-hW0];exact dG w1 _
 have hseq:=pP Fence.wide (fun _=>trivial) rfl rfl 8 w.heap.size (w.heap.size+2) w1.heap.size 9 (by decide) _ _ w W0 (UZ _) (by omega) HX.out HO.out (.of hb0) hbp;rw [hW0];clear hxb hob hx0 hx1 hx2 hbp
 refine Ia (lb:= #[.pointer (some ⟨w1.heap.size,0,none⟩)]) (gf:=109) rfl (enters_of Tryz.func109 (by kernel_rfl) rfl) hseq (Below.refl _ _) (fun _=>rfl)
  (fun pre W=>(∃v,Boxed W (w.heap.size+1) 55 v∧W.ownsRow w.heap.size 9 1 v (mI pre).length ((mI pre).map Value.string)∧True)∧(Below w.heap.size w W∧W0.heap.size<=W.heap.size)) (fun _ _ _=>False)
  (((holdsRow_own w.heap.size (w.heap.size+1) 55 9 1 (fun pre:List XC=>(mI pre).length) (fun pre=>(mI pre).map Value.string) (fun _ _=>True)).from _).and ((ownFrom_below (UZ _) (by omega)).and (fun _ _ _ _ hs hg _=>Nat.le_trans hs hg.size)))
  (fun _ _ _ _ _ hs _ _=>hs) ⟨⟨_,hbo,World.ownsRow_nil _ _ _ _,trivial⟩,hb0,UZ _⟩ 3 (fun c=> #[.int .i64 c.kind, .string c.label, .slice c.ptr c.len c.cap]) 25 (fun _ _ h=>h.2.2) ?assign ?body ?done ?stop
 case assign=>
  intro l x W K hK;simp only [handed,XC.val,WH,WI,WJ,WK,WL,WN,WO];simp only [handed,XC.val,Act.mQ,WH,WI,WJ,WK,WL,WN,WO] at hK
  gi_wp2
  exact hK
 case body=>
  rintro l pre x B W hl hrec ⟨⟨v,hv,hrow, -⟩,hB,hsz⟩ hBB hbB hlen;have hvc:=hv.cell;have hvf:=hv.frozen;have hle:=yh pre;have hNN:=HN.out;have hp0:=au hbB 0;have hp1:=au hbB 1;simp only [Vk,V7,WG] at hp0 hp1;have HS:=Lib.hid (El pre x);have hxl:=x.hl;simp only [handed,Act.mQ,WH,WI,WJ,WK,WL,WN,WO]
  by_cases hh:x.kind=1
  ·have HH:=Lib.hid hh;have HV:=Lib.hid hv;have HR:=Lib.hid hrow;have HB:=Lib.hid hB;have HZ:=Lib.hid hsz;clear hv hrow hB hsz
   gi_wp2_with (gi_at_builtin;refine wpListIn_append_own _ rfl _ _ 55 rfl w.heap.size 9 i0 (.string ⟨#[]⟩) 1 16 Tryz.underlying55 HI.out.1 HI.out.2.1 HI.out.2.2.1 HI.out.2.2.2 rfl (by decide) _ _ _ rfl (HR.out.alloc _) ⟨W.heap.size,0,none⟩ 1 1 [.string x.label] rfl rfl (cell_one_new _ _ _) (by simp [Value.oneCell']) (by unfold maxLen;omega) (by omega) (by have:=HB.out.size;simp;omega) ?_;intro v' w1' hown' hgrow _;obtain ⟨g',cap',rfl⟩:=ownsRow_succ hown';obtain ⟨hv1,hv2,hr2,hk2,hb2⟩:=HV.out.appended (by decide) HR.out HB.out.size (X2 _) hown' hgrow;have HKP:=Lib.hid (s9 (hi:=w.heap.size+2) HR.out hgrow (X2 _) (Nat.lt_succ_self _) (.slice (some ⟨g',0,none⟩) ((mI pre).length+1) cap'));have hc1:=hv1.cell;have hf1:=hv1.frozen;have HV2:=Lib.hid hv2;have HR2:=Lib.hid hr2;have HK2:=Lib.hid hk2;have HB2:=Lib.hid hb2;clear hv1 hv2 hr2 hk2 hb2 hown' hgrow)
   refine ⟨HK2.out.from _,HKP.out,⟨_,HV2.out, ?_,trivial⟩,HB.out.trans HB2.out,Nat.le_trans HZ.out HK2.out.size⟩;rw [HS.out,if_pos HH.out];simpa using HR2.out
  ·have HH:=Lib.hid hh;have HV:=Lib.hid hv;have HR:=Lib.hid hrow;have HB:=Lib.hid hB;have HZ:=Lib.hid hsz;clear hv hrow hB hsz
   gi_wp2
   refine ⟨KeepsFrom.refl _ _,Kept.refl _ _ _ _,⟨v,HV.out, ?_,trivial⟩,HB.out,HZ.out⟩;rw [HS.out,if_neg HH.out];exact HR.out
 case done=>
  rintro D xs W hD hS ⟨⟨v,hv,hrow, -⟩,hB,hsz⟩ hK;rw [HE.out xs hS] at hrow
  have hne: ¬w.heap.size+1=D:=by omega
  have hvc:=hv.cell;have hvf:=hv.frozen;have hob:W.heap[w.heap.size+1]? = some (.cells #[v] 55 (0,0)):=hv
  have hlen:(bj (.mk k s kids)).length<=1000000:=by
   rw [<-HE.out xs hS];have h1:=yh xs;have h2:=HN.out
   have h3:xs.length=(az (.mk k s kids)).length:=by simpa using congrArg List.length hS
   omega
  have HBw:=Lib.hid hB;have HKw:=Lib.hid hK
  have hD2:w1.heap.size+1<=D:=by omega
  clear hB hK hS hsz hs0 hb01 hb0 hbo hseq
  rcases hrow.2 with ⟨rfl,hz⟩|⟨g,cap,cur,rfl,hgb,hgh,r1,r2,r3,r4⟩
  ·have hnil:bj (.mk k s kids)=[]:=List.eq_nil_of_length_eq_zero hz;have HNil:=Lib.hid hnil;have HOb:=Lib.hid hob;clear hrow hv hob hnil hz
   gi_wp2_with fail
   refine ⟨trivial,(callsIn_wide.2 (AnyM.slices_Sort_string_none lS none 0 _)).mono ?_⟩;rintro e w2 ⟨rfl,rfl⟩
   gi_wp2_with fail
   refine ⟨trivial,(callsIn_wide.2 (Any.slices_Compact_string_empty xA none 0 _)).mono ?_⟩;rintro e w2 ⟨rfl,rfl⟩
   gi_wp2_with fail
   have hKs:=dn HKw.out (b:=w.heap.size+1) (o:=0) (.slice none 0 0) (by omega);refine ⟨by simp, .inl ⟨_,_,rfl,run_takeDeferred hKs, ?_⟩⟩;have hbx:=dj (gX HOb.out (.slice none 0 0)) (.deferred none) (D:=D) hne;have hcf:=au hbx 0;simp only [Vk,V7] at hcf
   refine ⟨.slice none 0 0, ?_,_,rfl, ?_, ?_,fun b off n c e=>by cases e⟩
   ·simp [results,Tryz.results83,go_sem,hcf]
   ·have:ck (.mk k s kids)=[]:=by rw [ck,pc,HNil.out,List.map_nil,List.mergeSort_nil];rfl
    rw [this];exact .inl ⟨.inl rfl,rfl⟩
   ·exact jI (HBw.out.setCell (p:=⟨w.heap.size+1,0,none⟩) (X2 _) _) (by omega) _ hKs
  ·obtain ⟨nm,hnm⟩: ∃nm:List (List UInt8),(bj (.mk k s kids)).map (fun s=>s.data.toList)=nm:=⟨_,rfl⟩
   have hl1:(bj (.mk k s kids)).length=nm.length:=by rw [<-hnm,VW]
   have hen:(bj (.mk k s kids)).map Value.string=nm.map encStr:=by
    rw [<-hnm,XO];exact List.map_congr_left fun p _=>by simp [encStr]
   have hU:pc (.mk k s kids)=Go.Lib.compact (nm.mergeSort (fun x y=>decide (x<=y))):=by rw [pc,hnm]
   rw [hl1] at hlen;simp only [hl1,hen] at r1 r4 hvc hv hob hrow;rw [Nat.mul_one] at r4;have hgl:g<W.heap.size:=(U2.1 hgh).1
   have hgo:w.heap.size+1≠g:=fun e=>by
    subst e;rw [hob] at hgh;cases hgh
   have hgD:D≠g:=fun e=>by
    subst e;have:=HKw.out;rw [this] at hgh;cases hgh
   have hH:=holds_of_block hgh r4;have CS:=Lib.hid (AnyM.slices_Sort_string lS g 0 cap nm W hH hgl (by omega));have HOb:=Lib.hid hob;have HG:=Lib.hid hgh;have HR:=Lib.hid (show _∧_∧_ from ⟨r1,r2,r3⟩);have HU:=Lib.hid hU;clear hrow hv hob hH r4 hnm hen hU r1 r2 r3 hgh;simp only [hl1];clear hl1
   gi_wp2_with fail
   refine ⟨trivial,(callsIn_wide.2 CS.out).mono ?_⟩;rintro e w2 ⟨rfl,kk,os,rfl⟩;obtain ⟨r1,r2,r3⟩:=HR.out;have hg2:=heap_sorted (n:=kk) (os:=os) (nm.mergeSort (fun x y=>decide (x<=y))).toArray HG.out;have hgr2:=grownBy_sorted (w:=W) (g:=g) (n:=kk) (os:=os) (nm.mergeSort (fun x y=>decide (x<=y))).toArray;have hls:(nm.mergeSort (fun x y=>decide (x<=y))).length=nm.length:=List.length_mergeSort _;have htk:=take_putCells cur (nm.mergeSort (fun x y=>decide (x<=y))) (by rw [hls,r3];omega)
   have hsz2:(putCells encStr 0 (nm.mergeSort (fun x y=>decide (x<=y))).toArray cur).size=cap:=by simp [putCells,r3]
   have hDl:D<W.heap.size:=(U2.1 HKw.out).1;generalize hW2:Go.Sort.grow (putRow encStr (Go.Sort.ahead W kk) g 0 (nm.mergeSort (fun x y=>decide (x<=y))).toArray) os=W2 at *;have hob2:W2.heap[w.heap.size+1]? = some (.cells #[.slice (some ⟨g,0,none⟩) nm.length cap] 55 (0,0)):=(hgr2.block _ (U2.1 HOb.out).1 (by simpa using hgo)).trans HOb.out;have hD3:W2.heap[D]? = some (.deferred (some [])):=(hgr2.block _ hDl (by simpa using hgD)).trans HKw.out;have hB2:Below w.heap.size w W2:=HBw.out.grown hgr2 HBw.out.size (fun j e=>by cases e;exact hgb);have hc2:=au hob2 0;have hf2:=cj hob2 0;simp only [Vk,V7] at hc2;have hH2:=holds_of_block hg2 htk;have CC:=Lib.hid (Any.slices_Compact_string xA g 0 cap (nm.mergeSort (fun x y=>decide (x<=y))) W2 hH2 (by omega) (by omega));rw [hls] at CC;have HG2:=Lib.hid hg2;have HOb2:=Lib.hid hob2;have HD3:=Lib.hid hD3;have HB2:=Lib.hid hB2;have HS2:=Lib.hid hsz2;clear hg2 hgr2 htk hsz2 hW2 hob2 hD3 hB2 hH2 HOb HG HKw HBw CS hvc hvf
   gi_wp2_with fail
   refine ⟨trivial,(callsIn_wide.2 CC.out).mono ?_⟩;rintro e w3 ⟨rfl,q,rfl⟩
   have hcl:(pc (.mk k s kids)).length<=nm.length:=by rw [HU.out, <- hls];exact Go.Lib.compact_length_le _
   rw [<-HU.out];generalize hZ:(pc (.mk k s kids)++List.replicate (nm.length - (pc (.mk k s kids)).length) ([]:List UInt8))=Z
   have hZl:Z.length=nm.length:=by rw [<-hZ,List.length_append,List.length_replicate];omega
   have hg3:=heap_sorted (n:=q) (os:= #[]) Z.toArray HG2.out;have hgr3:=grownBy_sorted (w:=W2) (g:=g) (n:=q) (os:= #[]) Z.toArray;have htk:=take_putCells (putCells encStr 0 (nm.mergeSort (fun x y=>decide (x<=y))).toArray cur) Z (by rw [hZl,HS2.out];omega);rw [grow_empty] at hg3 hgr3;have hDl:D<W2.heap.size:=(U2.1 HD3.out).1;generalize putRow encStr (Go.Sort.ahead W2 q) g 0 Z.toArray=W3 at *;have hob3:W3.heap[w.heap.size+1]? = some (.cells #[.slice (some ⟨g,0,none⟩) nm.length cap] 55 (0,0)):=(hgr3.block _ (U2.1 HOb2.out).1 (by simpa using hgo)).trans HOb2.out;have hD4:W3.heap[D]? = some (.deferred (some [])):=(hgr3.block _ hDl (by simpa using hgD)).trans HD3.out;have hB3:Below w.heap.size w W3:=HB2.out.grown hgr3 HB2.out.size (fun j e=>by cases e;exact hgb);have hc3:=au hob3 0;have hf3:=cj hob3 0;simp only [Vk,V7] at hc3;have HG3:=Lib.hid hg3;have HOb3:=Lib.hid hob3;have HD4:=Lib.hid hD4;have HB3:=Lib.hid hB3;have HT:=Lib.hid htk;have HZ:=Lib.hid hZ;have HZl:=Lib.hid hZl;clear hg3 hgr3 htk hob3 hD4 hB3 hZ hZl hc2 hf2
   gi_wp2_with fail
   have hKs:=dn HD4.out (b:=w.heap.size+1) (o:=0) (.slice (some ⟨g,0,none⟩) (pc (.mk k s kids)).length cap) (by omega);refine ⟨by simp, .inl ⟨_,_,rfl,run_takeDeferred hKs, ?_⟩⟩;have hbx:=dj (gX HOb3.out (.slice (some ⟨g,0,none⟩) (pc (.mk k s kids)).length cap)) (.deferred none) (D:=D) hne;have hcf:=au hbx 0;simp only [Vk,V7] at hcf
   refine ⟨.slice (some ⟨g,0,none⟩) (pc (.mk k s kids)).length cap, ?_,_,rfl, ?_, ?_,fun b off n c e=>by cases e;exact hgb⟩
   ·simp [results,Tryz.results83,go_sem,hcf]
   ·have hg4:=dj (dn HG3.out (b:=w.heap.size+1) (o:=0) (.slice (some ⟨g,0,none⟩) (pc (.mk k s kids)).length cap) hgo.symm) (.deferred none) (D:=D) hgD.symm;refine .inr ⟨g,0,cap,by rw [ck,VW],by rw [ck,VW];omega,r2,fun i x hx=>⟨[.string x],rfl, ?_,trivial⟩⟩;rw [au hg4]
    have hi:i<(pc (.mk k s kids)).length:=by simpa [ck] using (U4.1 hx).1
    have e1:=congrArg (fun l:List Value=>l[i]?) HT.out
    have hZi:Z[i]? = some (pc (.mk k s kids))[i]:=by rw [<-HZ.out,List.getElem?_append_left hi,Vi hi]
    rw [HZl.out,List.getElem?_take_of_lt (by omega),Array.getElem?_toList,List.getElem?_map,hZi] at e1;rw [Nat.zero_add,Nat.mul_one,e1];rw [ck,List.getElem?_map,Vi hi] at hx;simp only [Option.map_some,Option.some.injEq] at hx;simp [encStr, <- hx]
   ·exact jI (HB3.out.setCell (p:=⟨w.heap.size+1,0,none⟩) (X2 _) _) (by omega) _ hKs
 case stop=>
  rintro D c pre W _ _ h _;exact h.elim
section
open Go.Lib
theorem OO {α:Type} [Inhabited α] [DecidableEq α] {le:α->α->Prop} (tr: ∀a b c,le a b->le b c->le a c) (an: ∀a b,le a b->le b a->a=b) (rf: ∀a,le a a) (d:Array α) (hs: ∀i j,i<=j->j<d.size->le d[i]! d[j]!) :
  ∀m,m<=d.size->(compactUpTo d m).Pairwise (fun a b=>le a b∧a≠b)∧(∀x,x∈compactUpTo d m ↔ ∃j,j<m∧x=d[j]!)∧ ∀x,x∈compactUpTo d m->le x d[m - 1]!
 | 0,_=>⟨by simp [compactUpTo],fun x=>by simp [compactUpTo],fun x h=>by simp [compactUpTo] at h⟩
 | m+1,hm=>by
  obtain ⟨h1,h2,h3⟩:=OO tr an rf d hs m (by omega);rw [compactUpTo_succ]
  have hle: ∀x,x∈compactUpTo d m->le x d[m]! :=fun x hx=>by
   rcases Nat.eq_zero_or_pos m with e|e
   ·subst e;simp [compactUpTo] at hx
   ·exact tr _ _ _ (h3 x hx) (hs (m - 1) m (by omega) (by omega))
  by_cases hk:keeps d m=true
  ·rw [if_pos hk]
   refine ⟨?_,fun x=> ?_,fun x hx=> ?_⟩
   ·rw [List.pairwise_append];refine ⟨h1,by simp,fun a ha b hb=> ?_⟩;simp only [Wr,Wt,or_false] at hb;subst hb;refine ⟨hle a ha,fun e=> ?_⟩
    rcases Nat.eq_zero_or_pos m with q|q
    ·subst q;simp [compactUpTo] at ha
    ·have hne:d[m]! ≠ d[m - 1]! :=by
      simp only [keeps,decide_eq_true_eq] at hk
      rcases hk with hk|hk
      ·omega
      ·exact hk
     have h4:=h3 a ha;have h5:=hs (m - 1) m (by omega) (by omega);rw [e] at h4;exact hne (an _ _ h4 h5)
   ·simp only [List.mem_append,Wr,Wt,or_false,h2 x]
    constructor
    ·rintro (⟨j,hj,rfl⟩|rfl)
     ·exact ⟨j,by omega,rfl⟩
     ·exact ⟨m,by omega,rfl⟩
    ·rintro ⟨j,hj,rfl⟩
     rcases U6 j m with q|q
     ·exact .inl ⟨j,q,rfl⟩
     ·obtain rfl:j=m:=by omega
      exact .inr rfl
   ·rw [Nat.add_sub_cancel];simp only [List.mem_append,Wr,Wt,or_false] at hx
    rcases hx with hx|rfl
    ·exact hle x hx
    ·exact rf _
  ·rw [if_neg hk,Wj]
   have hm0:m≠0∧d[m]! = d[m - 1]! :=by
    simp only [keeps,decide_eq_true_eq] at hk;exact ⟨fun e=>hk (.inl e),XP fun e=>hk (.inr e)⟩
   refine ⟨h1,fun x=> ?_,fun x hx=>by rw [Nat.add_sub_cancel];exact hle x hx⟩;rw [h2 x]
   constructor
   ·rintro ⟨j,hj,rfl⟩;exact ⟨j,by omega,rfl⟩
   ·rintro ⟨j,hj,rfl⟩
    rcases U6 j m with q|q
    ·exact ⟨j,q,rfl⟩
    ·obtain rfl:j=m:=by omega
     exact ⟨j - 1,by omega,hm0.2⟩
theorem q9 (l:List (List UInt8)):(Go.Lib.compact (l.mergeSort (fun x y=>decide (x<=y)))).Pairwise (fun a b=>a<b)∧ ∀x,x∈Go.Lib.compact (l.mergeSort (fun x y=>decide (x<=y)))↔x∈l:=by
 have hsort:(l.mergeSort (fun x y=>decide (x<=y))).Pairwise (fun x y=>decide (x<=y)=true):=List.pairwise_mergeSort (fun a b c h1 h2=>by simp only [decide_eq_true_eq] at *; exact List.le_trans h1 h2) (fun a b=>by simp only [Bool.or_eq_true,decide_eq_true_eq];exact List.le_total a b) _;have hperm:=List.mergeSort_perm l (fun x y=>decide (x<=y));generalize l.mergeSort (fun x y=>decide (x<=y))=s at hsort hperm
 have hs: ∀i j,i<=j->j<s.toArray.size->s.toArray[i]! <= s.toArray[j]! :=fun i j hij hj=>by
  have hj':j<s.length:=by simpa using hj
  have hi':i<s.length:=by omega
  rw [getElem!_pos s.toArray i (by simpa using hi'),getElem!_pos s.toArray j hj];simp only [List.getElem_toArray]
  rcases U6 i j with q|q
  ·have:=List.pairwise_iff_getElem.1 hsort i j hi' hj' q
   simpa using this
  ·obtain rfl:i=j:=by omega
   exact List.le_refl _
 obtain ⟨h1,h2,_⟩:=OO (le:=fun a b:List UInt8=>a<=b) (fun _ _ _=>List.le_trans) (fun _ _=>List.le_antisymm) (fun _=>List.le_refl _) s.toArray hs s.length (by simp)
 refine ⟨?_,fun x=> ?_⟩
 ·show (compactUpTo s.toArray s.length).Pairwise _;refine h1.imp fun {a b} ⟨q1,q2⟩=> ?_;exact XP fun h=>q2 (List.le_antisymm q1 (List.not_lt.1 h))
 ·show x∈compactUpTo s.toArray s.length↔_;rw [h2 x, <- hperm.mem_iff]
  constructor
  ·rintro ⟨j,hj,rfl⟩;rw [getElem!_pos s.toArray j (by simpa using hj)];simp
  ·intro hx;obtain ⟨j,hj,rfl⟩:=List.getElem_of_mem hx;exact ⟨j,hj,by rw [getElem!_pos s.toArray j (by simpa using hj)];simp⟩
end
theorem pd (x:Ex):mZ (ck x):=by
 rw [mZ,ck,List.pairwise_map]
 exact (q9 _).1.imp fun h=>by simpa using h
theorem kV {x:Ex} {s:ByteArray}:s∈ck x↔s∈bj x:=by
 rw [ck,Wu]
 constructor
 ·rintro ⟨l,h,rfl⟩
  have:=((q9 _).2 l).1 h
  obtain ⟨t,h1,rfl⟩:=Wu.1 this;simpa using h1
 ·intro h;exact ⟨s.data.toList,((q9 _).2 _).2 (List.mem_map_of_mem h),by simp⟩
theorem nE (x:Ex):(ck x).Nodup:=qv (pd x)
theorem G3 (x:Ex):(ck x).length<=(bj x).length:=(nE x).length_le_of_subset fun _ h=>kV.1 h
theorem rL {x:Ex} (h:Fit x):((az x).filter (fun y=>y.kind==1)).map Ex.label=bj x:=by
 induction h with
 | lab s=>simp [az,b6,bj,Ex.kind,Ex.label]
 | many k s l hk hl hf ih=>
  have hk1: ¬k=1:=by rcases hk with rfl|rfl<;>decide
  rw [az,b6,dA hk1,Xv (by simpa [Ex.kind] using hk1)];clear hl hf
  induction l with
  | nil=>rfl
  | cons a l ih2=>
   rw [List.flatMap_cons,List.filter_append,List.map_append,aP,ih a (by simp),ih2 (fun y hy=>ih y (by simp [hy]))]
 | one k s x hk hf ih=>
  have hk1: ¬k=1:=by rcases hk with rfl|rfl|rfl<;>decide
  rw [az,b6,dA hk1,Xv (by simpa [Ex.kind] using hk1),List.flatMap_cons,List.flatMap_nil,Wj,ih,aP,aP,Wj]
theorem AF {x:Ex} (h:Fit x) (L:List XC) (e:L.map XC.sig=(az x).map Ex.sig):mI L=bj x:=by
 rw [<-rL h]
 have h1:mI L=((L.map XC.sig).filter (fun c=>c.1==1)).map (fun c=>c.2.1):=by
  rw [mI,List.filter_map,XO];rfl
 have h2:((az x).filter (fun y=>y.kind==1)).map Ex.label=(((az x).map Ex.sig).filter (fun c=>c.1==1)).map (fun c=>c.2.1):=by
  have e1:((fun c:Int×ByteArray×Nat=>c.1==1) ∘ Ex.sig)=fun y=>y.kind==1:=by funext y;cases y;rfl
  have e2:((fun c:Int×ByteArray×Nat=>c.2.1) ∘ Ex.sig)=Ex.label:=by funext y;cases y;rfl
  rw [List.filter_map,XO,e1,e2]
 rw [h1,h2,e]
theorem G5 (x:Ex) (h:x.ok) (hr:aI x=true):ah Tryz.prog 83 [.agg (bC x)] (cg (ck x)):=
 .Cn (by kernel_rfl) (by simp only [bp,AV.wf,lu,WT]) (fun D nu w vargs hh=>by
  obtain ⟨a,rfl,ha⟩:=di hh;obtain ⟨ca,rfl,ka⟩:=H6 ha
  have hp:(az x).length<=1000000:=by
   have:=hr
   simp only [aI,VS,decide_eq_true_eq] at this;omega
  exact AI x ca w (Ic x ca ka) h hr hp (AF (js hr).1))
theorem yi {x:Ex} (hr:aI x=true) {l:ByteArray} (h:l∈bj x):cZ l=true:=by
 rw [<-rL (js hr).1,Wu] at h;obtain ⟨y,hy,rfl⟩:=h;rw [List.mem_filter] at hy
 have hp:y.part=true:=by
  simp only [aI,VS,List.all_eq_true] at hr;exact hr.2 y hy.1
 obtain ⟨k,s,kids⟩:=y
 have hk:k=1:=by simpa [Ex.kind] using hy.2
 subst hk;simp only [Ex.part,bA,BEq.rfl,if_true,VS] at hp;exact hp.2
theorem D5 {s:ByteArray} (h:cZ s=true):s.size<=20:=by
 simp only [cZ,gJ,VS,decide_eq_true_eq] at h;exact h.1.1.2
theorem J8 {s:ByteArray} (h:cZ s=true):32∉s.data.toList:=fun hm=>by
 simp only [cZ,gJ,VS,List.all_eq_true] at h
 have:=h.1.1.1.1 32 hm
 revert this;decide
theorem Cg {x:Ex} (hr:aI x=true): ∀l∈ck x,32∉l.data.toList:=fun l hl=>J8 (yi hr (kV.1 hl))
theorem Ch {x:Ex} (hr:aI x=true): ∀l∈ck x,l.size<=20:=fun l hl=>D5 (yi hr (kV.1 hl))
theorem AH {x:Ex} (hr:aI x=true):(ck x).length<=24:=by
 have N:=nI hr
 have:=G3 x
 have:=N.ok.n
 rw [N.af] at this;omega
theorem Nl {x:Ex} (hr:aI x=true) {st:mX} (h:uD x (ck x)=some st):RK st.rows st.ends∧0<st.rows.length∧(cG st.rows st.ends).length=st.rows.length:=by
 obtain ⟨ho,hl,hw⟩:=CD (bK (b0 x)) (b0 x).em (ar (b0 x).la) (nE x) h;have hz0:(st.all)[0]? = some [0]:=hw.zero
 have hpos:0<st.rows.length:=by rw [hl];exact (U4.1 hz0).1
 have hT:=uG ho hl;obtain ⟨_,hpl⟩:=sc st.rows st.ends (uF (Cg hr) ho) hT hpos ho.ends
 refine ⟨⟨by have:=ho.max;omega,ho.ends,fun r hr'=>(pd x).sublist (ho.row r hr').1,fun r hr'=> ?_,fun r hr' p hp=>⟨?_,hT r hr' p hp⟩⟩,hpos,hpl⟩
 ·have:=(ho.row r hr').1.length_le
  have:=AH hr
  simp only [VW] at *; omega
 ·have:=Ch hr _ ((ho.row r hr').1.subset (List.mem_map_of_mem hp));omega
def cd (A:mW):List AV:=gV A.rows A.ends++[cg A.af]
theorem dI (n:Nat) (A:mW):bp n (cd A)=true:=by simp only [cd,gV,cg,WY,WZ,bp,AV.wf,oh,oc,dB,WT]
theorem Ag (A:mW):ah Tryz.prog 59 [.vp (cd A)] (.v (.int .i64 A.rows.length)):=by
 simp only [cd,gV,cg,WY,WZ]
 (refine ah.enter Tryz.func59 rfl (by kernel_rfl) (by kernel_rfl) rfl (by first|rfl|(simp only [go_sem,WT,Wg,Wn])) (by first|rfl|(simp only [go_sem,WT,Wg,Wn])) ?_;simp only [Tryz.ntmps59,Tryz.results59,U9,U3,Nat.reduceAdd,Nat.reduceSub,WW,WX,WY,WZ])
 repeat (first|(with_reducible first|refine ag.up ?_|refine fun (K:AK) hK=> ?_|(refine hK _ ?_;clear hK K))|simp only [go_sem]|clear hK K)
noncomputable def Eu (x:Ex):AV:=match dE x (ck x) with
 | .inl A=> .cy [.vp (cd A), .v (.int .i64 0)]
 | .inr e=> .cy [.v (.pointer none), .v (.int .i64 e)]
theorem Lr (x:Ex):(Eu x).wf 0=true:=by
 unfold Eu
 split
 ·simp only [AV.wf,bp,dI,WT]
 ·rfl
theorem Mz (x:Ex) (ho:x.ok):ah Tryz.prog 49 [.agg (bC x)] (Eu x):=by
 have CN:=Pb x ho;have hF:=Lr x
 have hu:Eu x=(if aI x then (match uD x (ck x) with
  | some st=>if 32<(jV (ck x) st).rows.length then .cy [.v (.pointer none), .v (.int .i64 11)] else .cy [.vp (cd (jV (ck x) st)), .v (.int .i64 0)]
  | none=> .cy [.v (.pointer none), .v (.int .i64 11)]) else .cy [.v (.pointer none), .v (.int .i64 2)]):=by
  unfold Eu dE
  cases aI x
  ·rfl
  ·simp only [if_true]
   cases uD x (ck x) with
   | none=>rfl
   | some st=>
    by_cases h32:32<(jV (ck x) st).rows.length
    ·simp only [if_pos h32]
    ·simp only [if_neg h32]
 rw [hu] at hF ⊢;clear hu
 cases hr:aI x
 ·rw [hr] at CN hF;simp only [Bool.false_eq_true,if_false] at CN hF ⊢;simp only [aN] at *
  (refine ah.enter Tryz.func49 rfl (by kernel_rfl) (by kernel_rfl) rfl (by first|rfl|(simp only [go_sem,WT,Wg,Wn])) (by first|rfl|(simp only [go_sem,WT,Wg,Wn])) ?_;simp only [Tryz.ntmps49,Tryz.results49,U9,U3,Nat.reduceAdd,Nat.reduceSub,WW,WX,WY,WZ])
  repeat (first|(with_reducible first|refine ag.up ?_|refine fun (K:AK) hK=> ?_|(refine hK _ ?_;clear hK K))|simp only [go_sem]|clear hK K)
  refine ab.one CN ?_
  repeat (first|(with_reducible first|refine ag.up ?_|refine fun (K:AK) hK=> ?_|(refine hK _ ?_;clear hK K))|simp only [go_sem]|clear hK K)
  (refine jb.of 40 rfl ?_;simp only [go_sem])
 ·have CL:=G5 x ho hr;rw [hr] at CN hF;simp only [if_true] at CN hF ⊢;have ok:=(nI hr).ok;have hln:=AH hr;have CS:=Nk ok (ck x) (nE x) (by omega) (mB _).2;have hS:sx (bK (b0 x)) (b0 x).em (ar (b0 x).la) (ck x)=uD x (ck x):=rfl;rw [hS] at CS
  cases hst:uD x (ck x) with
  | none=>
   rw [hst] at CS hF;simp only [pT] at CS;simp only [aN,cg] at *
   (refine ah.enter Tryz.func49 rfl (by kernel_rfl) (by kernel_rfl) rfl (by first|rfl|(simp only [go_sem,WT,Wg,Wn])) (by first|rfl|(simp only [go_sem,WT,Wg,Wn])) ?_;simp only [Tryz.ntmps49,Tryz.results49,U9,U3,Nat.reduceAdd,Nat.reduceSub,WW,WX,WY,WZ])
   repeat (first|(with_reducible first|refine ag.up ?_|refine fun (K:AK) hK=> ?_|(refine hK _ ?_;clear hK K))|simp only [go_sem]|clear hK K)
   refine ab.one CN ?_
   repeat (first|(with_reducible first|refine ag.up ?_|refine fun (K:AK) hK=> ?_|(refine hK _ ?_;clear hK K))|simp only [go_sem]|clear hK K)
   refine ab.one CL ?_
   repeat (first|(with_reducible first|refine ag.up ?_|refine fun (K:AK) hK=> ?_|(refine hK _ ?_;clear hK K))|simp only [go_sem]|clear hK K)
   refine ab.one CS ?_
   repeat (first|(with_reducible first|refine ag.up ?_|refine fun (K:AK) hK=> ?_|(refine hK _ ?_;clear hK K))|simp only [go_sem]|clear hK K)
   (refine jb.of 40 rfl ?_;simp only [go_sem])
  | some st=>
   rw [hst] at CS hF;obtain ⟨g1,g2,g3⟩:=Nl hr hst;have CQ:=Kn g1 g2 g3;have CZ:=Ag (jV (ck x) st);simp only [pT] at CS
   by_cases h32:32<(jV (ck x) st).rows.length
   ·simp only [if_pos h32] at hF ⊢;simp only [aN,cg,cd,gA,jV,gV,WY,WZ] at *;clear hF g1 g2 g3 hS hst;generalize c8 st.rows st.ends (cG st.rows st.ends)=L at CQ CZ h32 ⊢
    (refine ah.enter Tryz.func49 rfl (by kernel_rfl) (by kernel_rfl) rfl (by first|rfl|(simp only [go_sem,WT,Wg,Wn])) (by first|rfl|(simp only [go_sem,WT,Wg,Wn])) ?_;simp only [Tryz.ntmps49,Tryz.results49,U9,U3,Nat.reduceAdd,Nat.reduceSub,WW,WX,WY,WZ])
    repeat (first|(with_reducible first|refine ag.up ?_|refine fun (K:AK) hK=> ?_|(refine hK _ ?_;clear hK K))|simp only [go_sem]|clear hK K)
    refine ab.one CN ?_
    repeat (first|(with_reducible first|refine ag.up ?_|refine fun (K:AK) hK=> ?_|(refine hK _ ?_;clear hK K))|simp only [go_sem]|clear hK K)
    refine ab.one CL ?_
    repeat (first|(with_reducible first|refine ag.up ?_|refine fun (K:AK) hK=> ?_|(refine hK _ ?_;clear hK K))|simp only [go_sem]|clear hK K)
    refine ab.one CS ?_
    repeat (first|(with_reducible first|refine ag.up ?_|refine fun (K:AK) hK=> ?_|(refine hK _ ?_;clear hK K))|simp only [go_sem]|clear hK K)
    refine ab.one CQ ?_
    repeat (first|(with_reducible first|refine ag.up ?_|refine fun (K:AK) hK=> ?_|(refine hK _ ?_;clear hK K))|simp only [go_sem]|clear hK K)
    refine ab.Ff CZ 20 rfl (by simp only [go_sem,Nat.reduceLT,Nat.reduceLeDiff,Nat.reduceEqDiff,Nat.lt_add_one,Nat.zero_lt_one,and_self]) rfl ?_
    repeat (first|(with_reducible first|refine ag.up ?_|refine fun (K:AK) hK=> ?_|(refine hK _ ?_;clear hK K))|simp only [go_sem]|clear hK K)
    refine eJ.part (fun h=> ?_) (fun h=> ?_)
    ·repeat (first|(with_reducible first|refine ag.up ?_|refine fun (K:AK) hK=> ?_|(refine hK _ ?_;clear hK K))|simp only [go_sem]|clear hK K)
     (refine jb.of 40 rfl ?_;simp only [go_sem])
    ·exfalso;(try simp only [bne_iff_ne,ne_eq,bne_eq_false_iff_eq,beq_iff_eq,beq_eq_false_iff_ne,decide_eq_true_eq,decide_eq_false_iff_not,W5,Int.natCast_inj,Int.ofNat_lt,Int.ofNat_le] at h);omega
   ·simp only [if_neg h32] at hF ⊢;simp only [aN,cg,cd,gA,jV,gV,WY,WZ] at *;clear hF g1 g2 g3 hS hst;generalize c8 st.rows st.ends (cG st.rows st.ends)=L at CQ CZ h32 ⊢
    (refine ah.enter Tryz.func49 rfl (by kernel_rfl) (by kernel_rfl) rfl (by first|rfl|(simp only [go_sem,WT,Wg,Wn])) (by first|rfl|(simp only [go_sem,WT,Wg,Wn])) ?_;simp only [Tryz.ntmps49,Tryz.results49,U9,U3,Nat.reduceAdd,Nat.reduceSub,WW,WX,WY,WZ])
    repeat (first|(with_reducible first|refine ag.up ?_|refine fun (K:AK) hK=> ?_|(refine hK _ ?_;clear hK K))|simp only [go_sem]|clear hK K)
    refine ab.one CN ?_
    repeat (first|(with_reducible first|refine ag.up ?_|refine fun (K:AK) hK=> ?_|(refine hK _ ?_;clear hK K))|simp only [go_sem]|clear hK K)
    refine ab.one CL ?_
    repeat (first|(with_reducible first|refine ag.up ?_|refine fun (K:AK) hK=> ?_|(refine hK _ ?_;clear hK K))|simp only [go_sem]|clear hK K)
    refine ab.one CS ?_
    repeat (first|(with_reducible first|refine ag.up ?_|refine fun (K:AK) hK=> ?_|(refine hK _ ?_;clear hK K))|simp only [go_sem]|clear hK K)
    refine ab.one CQ ?_
    repeat (first|(with_reducible first|refine ag.up ?_|refine fun (K:AK) hK=> ?_|(refine hK _ ?_;clear hK K))|simp only [go_sem]|clear hK K)
    refine ab.Ff CZ 20 rfl (by simp only [go_sem,Nat.reduceLT,Nat.reduceLeDiff,Nat.reduceEqDiff,Nat.lt_add_one,Nat.zero_lt_one,and_self]) rfl ?_
    repeat (first|(with_reducible first|refine ag.up ?_|refine fun (K:AK) hK=> ?_|(refine hK _ ?_;clear hK K))|simp only [go_sem]|clear hK K)
    refine eJ.part (fun h=> ?_) (fun h=> ?_)
    ·exfalso;(try simp only [bne_iff_ne,ne_eq,bne_eq_false_iff_eq,beq_iff_eq,beq_eq_false_iff_ne,decide_eq_true_eq,decide_eq_false_iff_not,W5,Int.natCast_inj,Int.ofNat_lt,Int.ofNat_le] at h);omega
    ·repeat (first|(with_reducible first|refine ag.up ?_|refine fun (K:AK) hK=> ?_|(refine hK _ ?_;clear hK K))|simp only [go_sem]|clear hK K)
     (refine jb.of 40 rfl ?_;simp only [go_sem])
end
def dx (A:mW) (s:Int):Bool:=decide (0<=s)&&decide (s<A.rows.length)&&A.ends.getD s.toNat false
def ln (A:mW) (s:Int) (l:ByteArray):Option Nat:=if 0<=s∧s<A.rows.length then look (A.rows.getD s.toNat []) l else none
def stepT (o:Option Nat):AV:= .cy [.v (.int .i64 ((o.getD 0:Nat):Int)), .v (.bool o.isSome)]
theorem Gm (A:mW) (hE:A.ends.length=A.rows.length) (s:Int):ah Tryz.prog 31 [.vp (cd A), .v (.int .i64 s)] (.v (.bool (dx A s))):=by
 have CZ:=Ag A;simp only [cd,gV,cg,WY,WZ,hE] at CZ ⊢
 by_cases h0:0<=s
 ·obtain ⟨k,rfl⟩: ∃k:Nat,s=k:=⟨s.toNat,by omega⟩;have e1:decide (0<=(k:Int))=true:=decide_eq_true h0
  by_cases h1:k<A.rows.length
  ·have e2:decide ((k:Int)<(A.rows.length:Int))=true:=decide_eq_true (by omega)
   have e3:dx A k=A.ends.getD k false:=by rw [dx,e1,e2];rfl
   have eG:(A.ends.map (fun b=>[AV.v (.bool b)])).getD k []=[.v (.bool (A.ends.getD k false))]:=by
    rw [VX,List.getElem?_map,Vi (by omega),VX,Vi (by omega)];rfl
   rw [e3]
   (refine ah.enter Tryz.func31 rfl (by kernel_rfl) (by kernel_rfl) rfl (by first|rfl|(simp only [go_sem,WT,Wg,Wn])) (by first|rfl|(simp only [go_sem,WT,Wg,Wn])) ?_;simp only [Tryz.ntmps31,Tryz.results31,U9,U3,Nat.reduceAdd,Nat.reduceSub,WW,WX,WY,WZ])
   repeat (first|(with_reducible first|refine ag.up ?_|refine fun (K:AK) hK=> ?_|(refine hK _ ?_;clear hK K))|simp only [go_sem,e1]|with_reducible refine wA ?_|clear hK K)
   refine ab.one CZ ?_
   repeat (first|(with_reducible first|refine ag.up ?_|refine fun (K:AK) hK=> ?_|(refine hK _ ?_;clear hK K))|simp only [go_sem,e2,eG]|with_reducible refine wA ?_|clear hK K)
  ·have e2:decide ((k:Int)<(A.rows.length:Int))=false:=decide_eq_false (by omega)
   have e3:dx A k=false:=by rw [dx,e2];simp
   rw [e3]
   (refine ah.enter Tryz.func31 rfl (by kernel_rfl) (by kernel_rfl) rfl (by first|rfl|(simp only [go_sem,WT,Wg,Wn])) (by first|rfl|(simp only [go_sem,WT,Wg,Wn])) ?_;simp only [Tryz.ntmps31,Tryz.results31,U9,U3,Nat.reduceAdd,Nat.reduceSub,WW,WX,WY,WZ])
   repeat (first|(with_reducible first|refine ag.up ?_|refine fun (K:AK) hK=> ?_|(refine hK _ ?_;clear hK K))|simp only [go_sem,e1]|with_reducible refine wA ?_|clear hK K)
   refine ab.one CZ ?_
   repeat (first|(with_reducible first|refine ag.up ?_|refine fun (K:AK) hK=> ?_|(refine hK _ ?_;clear hK K))|simp only [go_sem,e2]|with_reducible refine wA ?_|clear hK K)
 ·have e1:decide (0<=s)=false:=decide_eq_false h0
  have e3:dx A s=false:=by rw [dx,e1];rfl
  rw [e3]
  (refine ah.enter Tryz.func31 rfl (by kernel_rfl) (by kernel_rfl) rfl (by first|rfl|(simp only [go_sem,WT,Wg,Wn])) (by first|rfl|(simp only [go_sem,WT,Wg,Wn])) ?_;simp only [Tryz.ntmps31,Tryz.results31,U9,U3,Nat.reduceAdd,Nat.reduceSub,WW,WX,WY,WZ])
  repeat (first|(with_reducible first|refine ag.up ?_|refine fun (K:AK) hK=> ?_|(refine hK _ ?_;clear hK K))|simp only [go_sem,e1]|with_reducible refine wA ?_|clear hK K)
theorem J0 (A:mW) (s:Int) (l:ByteArray):ah Tryz.prog 55 [.vp (cd A), .v (.int .i64 s), .v (.string l)] (stepT (ln A s l)):=by
 have CZ:=Ag A;simp only [cd,gV,cg,WY,WZ] at *
 by_cases h0:0<=s
 ·obtain ⟨k,rfl⟩: ∃k:Nat,s=k:=⟨s.toNat,by omega⟩;have e1:decide (0<=(k:Int))=true:=decide_eq_true h0
  by_cases h1:k<A.rows.length
  ·have e2:decide ((k:Int)<(A.rows.length:Int))=true:=decide_eq_true (by omega)
   have e3:ln A k l=look A.rows[k] l:=by
    rw [ln,if_pos ⟨h0,by omega⟩,Int.toNat_natCast,VX,Vi h1];rfl
   have eG:(A.rows.map (fun r=>[AV.mp (cz r)])).getD k []=[.mp (cz A.rows[k])]:=by
    rw [VX,List.getElem?_map,Vi h1];rfl
   have eA:=u7 l A.rows[k];rw [e3]
   cases hl:look A.rows[k] l with
   | none=>
    rw [hl] at eA;simp only [Option.map_none,stepT,X3,X4] at eA ⊢
    (refine ah.enter Tryz.func55 rfl (by kernel_rfl) (by kernel_rfl) rfl (by first|rfl|(simp only [go_sem,WT,Wg,Wn])) (by first|rfl|(simp only [go_sem,WT,Wg,Wn])) ?_;simp only [Tryz.ntmps55,Tryz.results55,U9,U3,Nat.reduceAdd,Nat.reduceSub,WW,WX,WY,WZ])
    repeat (first|(with_reducible first|refine ag.up ?_|refine fun (K:AK) hK=> ?_|(refine hK _ ?_;clear hK K))|simp only [go_sem,e1]|with_reducible refine wA ?_|clear hK K)
    refine ab.one CZ ?_
    repeat (first|(with_reducible first|refine ag.up ?_|refine fun (K:AK) hK=> ?_|(refine hK _ ?_;clear hK K))|simp only [go_sem,e2,eG,eA]|with_reducible refine wA ?_|clear hK K)
    (refine jb.of 40 rfl ?_;simp only [go_sem])
   | some t=>
    rw [hl] at eA;simp only [VB,stepT,XN,X5] at eA ⊢
    (refine ah.enter Tryz.func55 rfl (by kernel_rfl) (by kernel_rfl) rfl (by first|rfl|(simp only [go_sem,WT,Wg,Wn])) (by first|rfl|(simp only [go_sem,WT,Wg,Wn])) ?_;simp only [Tryz.ntmps55,Tryz.results55,U9,U3,Nat.reduceAdd,Nat.reduceSub,WW,WX,WY,WZ])
    repeat (first|(with_reducible first|refine ag.up ?_|refine fun (K:AK) hK=> ?_|(refine hK _ ?_;clear hK K))|simp only [go_sem,e1]|with_reducible refine wA ?_|clear hK K)
    refine ab.one CZ ?_
    repeat (first|(with_reducible first|refine ag.up ?_|refine fun (K:AK) hK=> ?_|(refine hK _ ?_;clear hK K))|simp only [go_sem,e2,eG,eA]|with_reducible refine wA ?_|clear hK K)
    (refine jb.of 40 rfl ?_;simp only [go_sem])
  ·have e2:decide ((k:Int)<(A.rows.length:Int))=false:=decide_eq_false (by omega)
   have e3:ln A k l=none:=by rw [ln,if_neg (by omega)]
   rw [e3];simp only [stepT,X3,X4]
   (refine ah.enter Tryz.func55 rfl (by kernel_rfl) (by kernel_rfl) rfl (by first|rfl|(simp only [go_sem,WT,Wg,Wn])) (by first|rfl|(simp only [go_sem,WT,Wg,Wn])) ?_;simp only [Tryz.ntmps55,Tryz.results55,U9,U3,Nat.reduceAdd,Nat.reduceSub,WW,WX,WY,WZ])
   repeat (first|(with_reducible first|refine ag.up ?_|refine fun (K:AK) hK=> ?_|(refine hK _ ?_;clear hK K))|simp only [go_sem,e1]|with_reducible refine wA ?_|clear hK K)
   refine ab.one CZ ?_
   repeat (first|(with_reducible first|refine ag.up ?_|refine fun (K:AK) hK=> ?_|(refine hK _ ?_;clear hK K))|simp only [go_sem,e2]|with_reducible refine wA ?_|clear hK K)
   (refine jb.of 40 rfl ?_;simp only [go_sem])
 ·have e1:decide (0<=s)=false:=decide_eq_false h0
  have e3:ln A s l=none:=by rw [ln,if_neg (by omega)]
  rw [e3];simp only [stepT,X3,X4]
  (refine ah.enter Tryz.func55 rfl (by kernel_rfl) (by kernel_rfl) rfl (by first|rfl|(simp only [go_sem,WT,Wg,Wn])) (by first|rfl|(simp only [go_sem,WT,Wg,Wn])) ?_;simp only [Tryz.ntmps55,Tryz.results55,U9,U3,Nat.reduceAdd,Nat.reduceSub,WW,WX,WY,WZ])
  repeat (first|(with_reducible first|refine ag.up ?_|refine fun (K:AK) hK=> ?_|(refine hK _ ?_;clear hK K))|simp only [go_sem,e1]|with_reducible refine wA ?_|clear hK K)
  (refine jb.of 40 rfl ?_;simp only [go_sem])
def nA (p:uY):List AV:=[.v (.string p.key), .v (.int .i64 p.val.kind), .v (.int .i64 p.val.num), .v (.string p.val.text)]
def aU (e:a8):List AV:=[.v (.string e.aD), .v (.string e.to), .v (.string e.label), .v (.int .i64 e.time), .aH 4 (e.props.map nA) e.props.length]
theorem fC (n:Nat) (l:List uY):bZ n (l.map nA)=true:=aZ _ (fun _=>rfl) l
theorem Fa (n:Nat) (e:a8):bp n (aU e)=true:=by simp only [aU,bp,AV.wf,fC,Wg]
theorem dJ (n:Nat) (l:List a8):bZ n (l.map aU)=true:=aZ _ (Fa n) l
def iV (A:mW) (s:Nat) (l:ByteArray):Option Nat:=ln A s l
def ju (S:DS):List (Option aa):=[some ⟨108,0,false,bB bP S.known⟩,some ⟨108,1,false,[[.vec 0 0]]⟩,some ⟨79,2,true,S.nodes.map bP⟩,some ⟨109,1,false,[[.vec 2 S.nodes.length]]⟩,
 some ⟨162,2,false,[[.vec 5 S.heap.length, .v (.bool true)]]⟩,some ⟨115,2,true,S.heap.map aM⟩,some ⟨110,1,false,[[.ptr 4 0 2 0 0]]⟩]
theorem gq (n:Nat) (l:List Nd):bZ n (l.map bP)=true:=aZ _ (fun _=>rfl) l
theorem cO (n:Nat) (l:List (Nd×Int)):bZ n (bB bP l)=true:=fD (fun _=>rfl) l
theorem wI (n:Nat) (l:List dC):bZ n (l.map aM)=true:=aA n l
theorem nC {l:List a8} {i:Nat} (h:i<l.length):(l.map aU).getD i []=[.v (.string l[i].aD), .v (.string l[i].to), .v (.string l[i].label), .v (.int .i64 l[i].time), .aH 4 (l[i].props.map nA) l[i].props.length]:=by
 rw [getD_map aU l i [] h];rfl
def dT (G:List (ByteArray×List a8)):List (List AV):=G.map (fun p=>[.v (.string p.1), .aH 5 (p.2.map aU) p.2.length])
theorem tT (k:ByteArray): ∀G,ky .string (.string k) (dT G)=some ((lY G k).map fun l=> .aH 5 (l.map aU) l.length)
 | []=>rfl
 | p :: G=>by
  rw [dT,WR,ky,lY];simp only [cC,if_true,dh,jw]
  by_cases e:p.1=k
  ·rw [if_pos e,decide_eq_true e.symm];rfl
  ·rw [if_neg e,decide_eq_false (Ne.symm e)];exact tT k G
theorem gr (n:Nat): ∀G,bZ n (dT G)=true
 | []=>rfl
 | p :: G=>by
  simp only [dT,WR,bZ,bp,AV.wf,dJ,Wn,Wg];exact gr n G
attribute [go_sem] cO wI gq gr dI dJ fC
theorem Ns (A:mW) (s:Nat) (l:ByteArray):ln A (s:Int) l=iV A s l:=rfl
theorem CH (A:mW) (E:List a8) (G:List (ByteArray×List a8)) (a:Nd) (time:Int) (S:DS) (hg:(lY G a.1).getD []=gO E a.1) (hn:S.heap.length+(gO E a.1).length<=999999) (hnn:S.nodes.length+(gO E a.1).length<=999999) (ht:0<=time∧time<=1099511627776) (hE: ∀e∈gO E a.1,0<=e.time∧e.time<=1099511627776) :
  aK Tryz.prog 54 [.agg (bP a), .v (.int .i64 time), .vp [.vp (cd A), .mp (dT G)], .ptr 1 0 1 0 0, .ptr 6 0 1 0 0, .ptr 3 0 1 0 0] (ju S) (.cy []) (ju (kB (iV A) E a time S)):=by
 have g0:=tT a.1 G;simp only [bP];rw [kB];generalize hR:(gO E a.1).foldl (qa (iV A) a time) S=R;generalize gO E a.1=L at *
 have d00:decide (((0:Nat):Int)<((0:Nat):Int))=false:=by decide
 cases hgg:lY G a.1 with
 | none=>
  rw [hgg] at g0 hg;simp only [X3,Option.map_none] at hg g0;subst hg;simp only [WK] at hR;subst hR;simp only [ju]
  (refine aK.enter Tryz.func54 rfl (by kernel_rfl) (by kernel_rfl) rfl ?_;simp only [Tryz.ntmps54,Tryz.results54,U9,U3,Nat.reduceAdd,Nat.reduceSub,WW,WX,WY,WZ])
  repeat (first|(with_reducible first|refine ag.up ?_|refine fun (K:AK) hK=> ?_|refine wD ?_|(refine hK _ ?_;clear hK K))|simp only [go_sem,g0]|with_reducible refine wA ?_|clear hK K)
  refine bI (ι:=Unit) 6 (fun _=>[(18, .v (.int .i64 (0:Nat))),(19, .v (.int .i64 (0:Nat)))]) (fun _=>ju S) (fun _=>0) (fun _=>True) () trivial ?_ ?_
  ·simp only [ju]
   (refine aq ?_ ?_ ?_<;>simp only [aD,WJ,WK,WW,WX,aW,aY,AV.v.injEq,Value.int.injEq,Value.bool.injEq,Value.string.injEq,AV.vec.injEq,AV.ptr.injEq,true_or,or_true,false_or,or_false,aa.mk.injEq,forall_eq_apply_imp_iff,forall_eq,forall_eq',go_sem])
   all_goals first|rfl|exact cO _ _|exact wI _ _|exact gq _ _|trace_state
  ·rintro _ _ K hK;simp only [ju]
   repeat (first|(with_reducible first|refine ag.up ?_|refine fun (K:AK) hK=> ?_|refine wD ?_|(refine hK _ ?_;clear hK K))|simp only [go_sem,d00]|with_reducible refine wA ?_|clear hK K)
   (refine ⟨?_, ?_, ?_⟩<;>simp only [aW,aY,AV.v.injEq,Value.int.injEq,Value.bool.injEq,Value.string.injEq,AV.vec.injEq,AV.ptr.injEq,true_or,or_true,false_or,or_false,aa.mk.injEq,forall_eq_apply_imp_iff,forall_eq,forall_eq',go_sem])
   all_goals first|rfl|exact cO _ _|exact wI _ _|exact gq _ _|trace_state
 | some l=>
  rw [hgg] at g0 hg;simp only [XN,VB] at hg g0;subst hg;simp only [ju]
  (refine aK.enter Tryz.func54 rfl (by kernel_rfl) (by kernel_rfl) rfl ?_;simp only [Tryz.ntmps54,Tryz.results54,U9,U3,Nat.reduceAdd,Nat.reduceSub,WW,WX,WY,WZ])
  repeat (first|(with_reducible first|refine ag.up ?_|refine fun (K:AK) hK=> ?_|refine wD ?_|(refine hK _ ?_;clear hK K))|simp only [go_sem,g0]|with_reducible refine wA ?_|clear hK K)
  refine bI (ι:=DS×Nat) 6 (fun x=>[(6, .ptr 7 0 2 0 0),(17, .aH 5 (l.map aU) l.length),(18, .v (.int .i64 (l.length:Nat))),(19, .v (.int .i64 (x.2:Nat)))]) (fun x=>ju x.1++[some ⟨79,2,false,[[.v (.string a.1), .v (.int .i64 (a.2:Nat))]]⟩]) (fun x=>l.length - x.2)
   (fun x=>x.2<=l.length∧(l.drop x.2).foldl (qa (iV A) a time) x.1=R∧x.1.heap.length+(l.length - x.2)<=999999∧x.1.nodes.length+(l.length - x.2)<=999999) (S,0) ⟨Nat.zero_le _,hR,hn,hnn⟩ ?_ ?_
  ·simp only [ju,WY,WZ]
   (refine aq ?_ ?_ ?_<;>simp only [aD,WJ,WK,WW,WX,aW,aY,AV.v.injEq,Value.int.injEq,Value.bool.injEq,Value.string.injEq,AV.vec.injEq,AV.ptr.injEq,true_or,or_true,false_or,or_false,aa.mk.injEq,forall_eq_apply_imp_iff,forall_eq,forall_eq',go_sem])
   all_goals first|rfl|exact rfl|trace_state
  ·rintro ⟨T,i⟩ ⟨hil,hT,hh,hnd⟩ K hK;simp only at hil hT hh hnd ⊢;simp only [ju,WY,WZ]
   have eN:(l.map aU).length=l.length:=by simp
   rcases Nat.lt_or_ge i l.length with hi|hi
   ·have d1:decide ((i:Int)<(l.length:Int))=true:=decide_eq_true (by omega);have e1:=nC hi;have C:=J0 A a.2 l[i].label;simp only [stepT,Ns] at C;rw [Wv hi,WJ] at hT;have hEt:=hE l[i] (List.getElem_mem hi);have ws:=aB (k:=i) (by omega);generalize l[i]=e at *;rw [qa] at hT
    cases hs:iV A a.2 e.label with
    | none=>
     rw [hs] at C hT;simp only [X3,X4] at C hT
     repeat (first|(with_reducible first|refine ag.up ?_|refine fun (K:AK) hK=> ?_|refine wD ?_|(refine hK _ ?_;clear hK K))|simp only [go_sem,d1,e1,eN]|with_reducible refine wA ?_|clear hK K)
     refine ab.one C ?_
     repeat (first|(with_reducible first|refine ag.up ?_|refine fun (K:AK) hK=> ?_|refine wD ?_|(refine hK _ ?_;clear hK K))|simp only [go_sem,ws]|with_reducible refine wA ?_|clear hK K)
     refine aJ.mk (T,i+1) ⟨hi,hT,(show T.heap.length+(l.length - (i+1))<=999999 by omega),(show T.nodes.length+(l.length - (i+1))<=999999 by omega)⟩ (show l.length - (i+1)<l.length - i by omega) ?_;simp only [ju,WY,WZ]
     (refine aq ?_ ?_ ?_<;>simp only [aD,WJ,WK,WW,WX,aW,aY,AV.v.injEq,Value.int.injEq,Value.bool.injEq,Value.string.injEq,AV.vec.injEq,AV.ptr.injEq,true_or,or_true,false_or,or_false,aa.mk.injEq,forall_eq_apply_imp_iff,forall_eq,forall_eq',go_sem])
     all_goals first|rfl|trace_state
    | some t=>
     rw [hs] at C hT;simp only [XN,X5] at C hT;have PU:=M9 T.known (e.to,t) (min time e.time);simp only [bP] at PU;rw [fm] at PU;have eK: ∀f l,bu f (bB bP l)=bB bP l:=fun f l=>aS _ _ (cO _ _)
     have em:(if e.time<time then e.time else time)=min time e.time:=by omega
     repeat (first|(with_reducible first|refine ag.up ?_|refine fun (K:AK) hK=> ?_|refine wD ?_|(refine hK _ ?_;clear hK K))|simp only [go_sem,d1,e1,eN]|with_reducible refine wA ?_|clear hK K)
     refine ab.one C ?_
     repeat (first|(with_reducible first|refine ag.up ?_|refine fun (K:AK) hK=> ?_|refine wD ?_|(refine hK _ ?_;clear hK K))|simp only [go_sem,em]|with_reducible refine wA ?_|clear hK K)
     cases hb:iH T.known (e.to,t) (min time e.time)
     ·rw [hb] at PU hT;simp only [Wy,if_false] at PU hT
      refine ab.fr [0] PU (by simp) ?_ ?_ ?_ ?_ ?_
      ·simp only [WR,Xb,V7,VB,aa.aV,eK]
      ·rfl
      ·rfl
      ·intro j ob hj
       match j,hj with
       | 0,hj=>cases hj;exact cO _ _
       | j+1,hj=>simp at hj
      repeat (first|(with_reducible first|refine ag.up ?_|refine fun (K:AK) hK=> ?_|refine wD ?_|(refine hK _ ?_;clear hK K))|simp only [go_sem,eK,ws]|with_reducible refine wA ?_|clear hK K)
      refine aJ.mk (T,i+1) ⟨hi,hT,(show T.heap.length+(l.length - (i+1))<=999999 by omega),(show T.nodes.length+(l.length - (i+1))<=999999 by omega)⟩ (show l.length - (i+1)<l.length - i by omega) ?_;simp only [ju,WY,WZ]
      (refine aq ?_ ?_ ?_<;>simp only [aD,WJ,WK,WW,WX,aW,aY,AV.v.injEq,Value.int.injEq,Value.bool.injEq,Value.string.injEq,AV.vec.injEq,AV.ptr.injEq,true_or,or_true,false_or,or_false,aa.mk.injEq,forall_eq_apply_imp_iff,forall_eq,forall_eq',go_sem])
      all_goals first|rfl|trace_state
     ·rw [hb] at PU hT;simp only [if_true] at PU hT
      have tt:iD Tryz.prog 79=some [.s, .i]:=by kernel_rfl
      have g1:=jk pJ (e.to,t) (gx T.known (e.to,t) (min time e.time));have g3:=pJ (e.to,t) (e.to,t);rw [decide_eq_true rfl] at g3;rw [ig,if_pos rfl] at g1;simp only [bP,VB] at g1 g3
      have wn:IntKind.i64.wrap (0 - (min time e.time)) = -(min time e.time):=by rw [cF (by omega) (by omega)];omega
      have PS:=M7 T.heap (-(min time e.time),(T.nodes.length:Int)) (by omega)
      have eNn:(T.nodes.map bP).length=T.nodes.length:=by simp
      have hpl:(jr T.heap (-(min time e.time),(T.nodes.length:Int))).length=T.heap.length+1:=by have:=(fR T.heap (-(min time e.time),(T.nodes.length:Int))).length_eq;simpa using this
      simp only [aM,mG] at PS;have eI: ∀f l,bu f (List.map aM l)=List.map aM l:=fun f l=>aS _ _ (aA _ _)
      refine ab.fr [0] PU (by simp) ?_ ?_ ?_ ?_ ?_
      ·simp only [WR,Xb,V7,VB,aa.aV,eK]
      ·rfl
      ·rfl
      ·intro j ob hj
       match j,hj with
       | 0,hj=>cases hj;exact cO _ _
       | j+1,hj=>simp at hj
      repeat (first|(with_reducible first|refine ag.up ?_|refine fun (K:AK) hK=> ?_|refine wD ?_|(refine hK _ ?_;clear hK K))|simp only [go_sem,eK,g1,g3,tt,wn]|with_reducible refine wA ?_|clear hK K)
      refine ab.fr [4,5] PS (by simp) ?_ ?_ ?_ ?_ ?_
      ·simp only [WR,Xb,V7,List.getElem?_cons_succ,VB,aa.aV,bu,bw,AV.aV,eI];rfl
      ·rfl
      ·rfl
      ·intro j ob hj
       match j,hj with
       | 0,hj=>cases hj;rfl
       | 1,hj=>cases hj;exact aA _ _
       | j+2,hj=>simp at hj
      repeat (first|(with_reducible first|refine ag.up ?_|refine fun (K:AK) hK=> ?_|refine wD ?_|(refine hK _ ?_;clear hK K))|simp only [go_sem,eI,eNn,ws]|with_reducible refine wA ?_|clear hK K)
      have e5:(T.nodes++[(e.to,t)]).map bP=T.nodes.map bP++[[.v (.string e.to), .v (.int .i64 (t:Nat))]]:=by rw [List.map_append];rfl
      have e6:(T.nodes++[(e.to,t)]).length=T.nodes.length+1:=by simp
      refine aJ.mk (⟨gx T.known (e.to,t) (min time e.time),T.nodes++[(e.to,t)],jr T.heap (-(min time e.time),(T.nodes.length:Int))⟩,i+1) ⟨hi,hT,(show (jr T.heap (-(min time e.time),(T.nodes.length:Int))).length+(l.length - (i+1))<=999999 by omega),(show (T.nodes++[(e.to,t)]).length+(l.length - (i+1))<=999999 by omega)⟩ (show l.length - (i+1)<l.length - i by omega) ?_;simp only [ju,WY,WZ,e5,e6]
      (refine aq ?_ ?_ ?_<;>simp only [aD,WJ,WK,WW,WX,aW,aY,AV.v.injEq,Value.int.injEq,Value.bool.injEq,Value.string.injEq,AV.vec.injEq,AV.ptr.injEq,true_or,or_true,false_or,or_false,aa.mk.injEq,forall_eq_apply_imp_iff,forall_eq,forall_eq',go_sem])
      all_goals first|rfl|trace_state
   ·have d1:decide ((i:Int)<(l.length:Int))=false:=decide_eq_false (by omega);rw [VK hi,WK] at hT
    repeat (first|(with_reducible first|refine ag.up ?_|refine fun (K:AK) hK=> ?_|refine wD ?_|(refine hK _ ?_;clear hK K))|simp only [go_sem,d1]|with_reducible refine wA ?_|clear hK K)
    rw [hT]
    (refine ⟨?_, ?_, ?_⟩<;>simp only [aW,aY,AV.v.injEq,Value.int.injEq,Value.bool.injEq,Value.string.injEq,AV.vec.injEq,AV.ptr.injEq,true_or,or_true,false_or,or_false,aa.mk.injEq,forall_eq_apply_imp_iff,forall_eq,forall_eq',go_sem])
    all_goals first|rfl|trace_state
theorem ze (s:ByteArray) (hs:s.size<=maxLen):ah Tryz.prog 86 [.v (.string s)] (.v (.bool (gJ s))):=ah.rV (by kernel_rfl) rfl (fun D nu w vargs hra=>by
 obtain ⟨x,rfl,hx⟩:=di hra;rw [hx.b5]
 exact pM s w hs)
theorem GA (s:ByteArray) (hs:s.size<=maxLen):ah Tryz.prog 87 [.v (.string s)] (.v (.bool (cZ s))):=ah.rV (by kernel_rfl) rfl (fun D nu w vargs hra=>by
 obtain ⟨x,rfl,hx⟩:=di hra;rw [hx.b5]
 exact xQ s w hs)
theorem Bu (v:zE) (hs:v.text.size<=maxLen):ah Tryz.prog 128 [.agg [.v (.int .i64 v.kind), .v (.int .i64 v.num), .v (.string v.text)]] (.v (.bool (bM v))):=ah.rV (by kernel_rfl) rfl (fun D nu w vargs hra=>by
 obtain ⟨x,rfl,hx⟩:=di hra;have e:x = .agg #[.int .i64 v.kind, .int .i64 v.num, .string v.text]:=ic (xs:=[.int .i64 v.kind, .int .i64 v.num, .string v.text]) hx;rw [e]
 exact wC v w hs)
theorem IX (t:Int):ah Tryz.prog 129 [.v (.int .i64 0), .v (.int .i64 1099511627776), .aH 1 [[.v (.int .i64 t)]] 1] (.v (.bool (decide (0<=t∧t<=1099511627776)))):=by
 have d0:decide (((0:Nat):Int)<((1:Nat):Int))=true:=by decide
 have d1:decide (((1:Nat):Int)<((1:Nat):Int))=false:=by decide
 have ws:=aB (k:=0) (by omega)
 (refine ah.enter Tryz.func129 rfl (by kernel_rfl) (by kernel_rfl) rfl (by first|rfl|(simp only [go_sem,WT,Wg,Wn])) (by first|rfl|(simp only [go_sem,WT,Wg,Wn])) ?_;simp only [Tryz.ntmps129,Tryz.results129,U9,U3,Nat.reduceAdd,Nat.reduceSub,WW,WX,WY,WZ])
 repeat (first|(with_reducible first|refine ag.up ?_|refine fun (K:AK) hK=> ?_|(refine hK _ ?_;clear hK K))|simp only [go_sem]|with_reducible refine wA ?_|clear hK K)
 refine bD (ι:=Bool) 11 (fun b=>[(8, .undef),(11, .v (.int .i64 ((if b then 1 else 0:Nat):Int)))]) (fun b=>if b then 0 else 1) (fun b=>b=true->0<=t∧t<=1099511627776) false (fun h=>by cases h) ?_ ?_
 ·simp only [Wy,if_false]
  (refine aq ?_ ?_ ?_<;>simp only [aD,WJ,WK,WW,WX,aW,aY,AV.v.injEq,Value.int.injEq,Value.bool.injEq,Value.string.injEq,AV.vec.injEq,AV.ptr.injEq,true_or,or_true,false_or,or_false,aa.mk.injEq,forall_eq_apply_imp_iff,forall_eq,forall_eq',go_sem])
  all_goals first|rfl|trace_state
 ·rintro b hb K hK
  cases b
  ·simp only [Wy,if_false]
   by_cases h1:t<0
   ·have e1:decide (t<0)=true:=decide_eq_true h1;rw [decide_eq_false (show ¬(0<=t∧t<=1099511627776) by omega)]
    repeat (first|(with_reducible first|refine ag.up ?_|refine fun (K:AK) hK=> ?_|(refine hK _ ?_;clear hK K))|simp only [go_sem,d0,e1]|with_reducible refine wA ?_|clear hK K)
   ·have e1:decide (t<0)=false:=decide_eq_false h1
    by_cases h2:1099511627776<t
    ·have e2:decide (1099511627776<t)=true:=decide_eq_true h2;rw [decide_eq_false (show ¬(0<=t∧t<=1099511627776) by omega)]
     repeat (first|(with_reducible first|refine ag.up ?_|refine fun (K:AK) hK=> ?_|(refine hK _ ?_;clear hK K))|simp only [go_sem,d0,e1,e2]|with_reducible refine wA ?_|clear hK K)
    ·have e2:decide (1099511627776<t)=false:=decide_eq_false h2
     repeat (first|(with_reducible first|refine ag.up ?_|refine fun (K:AK) hK=> ?_|(refine hK _ ?_;clear hK K))|simp only [go_sem,d0,e1,e2,ws]|with_reducible refine wA ?_|clear hK K)
     refine aJ.mk true (fun _=>by omega) (by simp) ?_;simp only [if_true]
     (refine aq ?_ ?_ ?_<;>simp only [aD,WJ,WK,WW,WX,aW,aY,AV.v.injEq,Value.int.injEq,Value.bool.injEq,Value.string.injEq,AV.vec.injEq,AV.ptr.injEq,true_or,or_true,false_or,or_false,aa.mk.injEq,forall_eq_apply_imp_iff,forall_eq,forall_eq',go_sem])
     all_goals first|rfl|trace_state
  ·have hd:decide (0<=t∧t<=1099511627776)=true:=decide_eq_true (hb rfl);simp only [if_true]
   repeat (first|(with_reducible first|refine ag.up ?_|refine fun (K:AK) hK=> ?_|(refine hK _ ?_;clear hK K))|simp only [go_sem,d1]|with_reducible refine wA ?_|clear hK K)
   rw [hd]
theorem R6 (t:Int):ah Tryz.prog 89 [.v (.int .i64 t)] (.v (.bool (decide (0<=t∧t<=1099511627776)))):=by
 have W:=IX t
 (refine ah.enter Tryz.func89 rfl (by kernel_rfl) (by kernel_rfl) rfl (by first|rfl|(simp only [go_sem,WT,Wg,Wn])) (by first|rfl|(simp only [go_sem,WT,Wg,Wn])) ?_;simp only [Tryz.ntmps89,Tryz.results89,U9,U3,Nat.reduceAdd,Nat.reduceSub,WW,WX,WY,WZ])
 repeat (first|(with_reducible first|refine ag.up ?_|refine fun (K:AK) hK=> ?_|(refine hK _ ?_;clear hK K))|simp only [go_sem]|clear hK K)
 refine ab.Ff W 8 rfl (by simp only [go_sem,Nat.reduceLT,Nat.reduceLeDiff,Nat.reduceEqDiff,Nat.lt_add_one,Nat.zero_lt_one,and_self]) rfl ?_
 repeat (first|(with_reducible first|refine ag.up ?_|refine fun (K:AK) hK=> ?_|(refine hK _ ?_;clear hK K))|simp only [go_sem]|clear hK K)
def Lw (p:uY):Prop:=p.key.size<=maxLen∧p.val.text.size<=maxLen
structure qA (e:a8):Prop where
 aD:e.aD.size<=maxLen
 to:e.to.size<=maxLen
 label:e.label.size<=maxLen
 props: ∀p∈e.props,Lw p
 len:e.props.length<=16777216
theorem KQ {l:List uY} {last:ByteArray} {k:Nat} (h:k<l.length):A5 last (l.drop k)=if Cj l[k].key last||l[k].key.toList==last.toList then false else cZ l[k].key&&bM l[k].val&&A5 l[k].key (l.drop (k+1)):=by
 rw [Wv h,A5]
theorem Kb {l:List uY} {i:Nat} (h:i<l.length):(l.map nA).getD i []=[.v (.string l[i].key), .v (.int .i64 l[i].val.kind), .v (.int .i64 l[i].val.num), .v (.string l[i].val.text)]:=by
 rw [getD_map nA l i [] h];rfl
theorem KP (l:List uY) (hp: ∀p∈l,Lw p) (hl:l.length<=16777216):ah Tryz.prog 88 [.aH 4 (l.map nA) l.length] (.v (.bool (yA l))):=by
 have eN:(l.map nA).length=l.length:=by simp
 generalize hR:yA l=R;rw [yA] at hR
 (refine ah.enter Tryz.func88 rfl (by kernel_rfl) (by kernel_rfl) rfl (by simp only [go_sem,bp,AV.wf,WT,Wg,Wn,fC]) (by simp only [go_sem,bp,AV.wf,dB,WT,Wg,Wn,fC]) ?_;simp only [Tryz.ntmps88,Tryz.results88,U9,U3,Nat.reduceAdd,Nat.reduceSub,WW,WX,WY,WZ])
 repeat (first|(with_reducible first|refine ag.up ?_|refine fun (K:AK) hK=> ?_|(refine hK _ ?_;clear hK K))|simp only [go_sem]|with_reducible refine wA ?_|clear hK K)
 refine bD (ι:=Nat×ByteArray) 3 (fun x=>[(3, .v (.string x.2)),(6, .aH 4 (l.map nA) l.length),(7, .v (.int .i64 (l.length:Nat))),(8, .v (.int .i64 (x.1:Nat)))]) (fun x=>l.length - x.1) (fun x=>x.1<=l.length∧(A5 x.2 (l.drop x.1)&&decide (l.length<=8))=R) (0,⟨#[]⟩) ⟨Nat.zero_le _,hR⟩ ?_ ?_
 ·(refine aq ?_ ?_ ?_<;>simp only [aD,WJ,WK,WW,WX,aW,aY,AV.v.injEq,Value.int.injEq,Value.bool.injEq,Value.string.injEq,AV.vec.injEq,AV.ptr.injEq,true_or,or_true,false_or,or_false,aa.mk.injEq,forall_eq_apply_imp_iff,forall_eq,forall_eq',go_sem])
  all_goals first|rfl|exact ⟨fC _ _,rfl⟩|trace_state
 ·rintro ⟨i,last⟩ ⟨hi,hq⟩ K hK;simp only at hi hq ⊢
  rcases Nat.lt_or_ge i l.length with h|h
  ·have d1:decide ((i:Int)<(l.length:Int))=true:=decide_eq_true (by omega);have e1:=Kb h;have hpp:=hp _ (List.getElem_mem h);rw [KQ h] at hq;have ws:=aB (k:=i) (by omega);generalize l[i]=p at *;have F:=GA p.key hpp.1;have V:=Bu p.val hpp.2;have lt:Cj p.key last=Op.bytesLess p.key.toList last.toList:=rfl;rw [lt] at hq
   cases hb:(Op.bytesLess p.key.toList last.toList||p.key.toList==last.toList)
   ·rw [hb] at hq;simp only [Wy,if_false] at hq
    repeat (first|(with_reducible first|refine ag.up ?_|refine fun (K:AK) hK=> ?_|(refine hK _ ?_;clear hK K))|simp only [go_sem,d1,e1,eN,hb]|with_reducible refine wA ?_|clear hK K)
    refine ab.one F ?_
    cases hf:cZ p.key
    ·rw [hf] at hq;simp only [X6] at hq
     repeat (first|(with_reducible first|refine ag.up ?_|refine fun (K:AK) hK=> ?_|(refine hK _ ?_;clear hK K))|simp only [go_sem,hf]|with_reducible refine wA ?_|clear hK K)
     rw [hq]
    ·rw [hf] at hq
     repeat (first|(with_reducible first|refine ag.up ?_|refine fun (K:AK) hK=> ?_|(refine hK _ ?_;clear hK K))|simp only [go_sem,hf]|with_reducible refine wA ?_|clear hK K)
     refine ab.one V ?_
     cases hv:bM p.val
     ·rw [hv] at hq;simp only [X7,X6] at hq
      repeat (first|(with_reducible first|refine ag.up ?_|refine fun (K:AK) hK=> ?_|(refine hK _ ?_;clear hK K))|simp only [go_sem,hv]|with_reducible refine wA ?_|clear hK K)
      rw [hq]
     ·rw [hv] at hq;simp only [WT,Wn] at hq
      repeat (first|(with_reducible first|refine ag.up ?_|refine fun (K:AK) hK=> ?_|(refine hK _ ?_;clear hK K))|simp only [go_sem,hv,ws]|with_reducible refine wA ?_|clear hK K)
      refine aJ.mk (i+1,p.key) ⟨h,hq⟩ (show l.length - (i+1)<l.length - i by omega) ?_
      (refine aq ?_ ?_ ?_<;>simp only [aD,WJ,WK,WW,WX,aW,aY,AV.v.injEq,Value.int.injEq,Value.bool.injEq,Value.string.injEq,AV.vec.injEq,AV.ptr.injEq,true_or,or_true,false_or,or_false,aa.mk.injEq,forall_eq_apply_imp_iff,forall_eq,forall_eq',go_sem])
      all_goals first|rfl|exact fC _ _|exact ⟨fC _ _,rfl⟩|trace_state
   ·rw [hb] at hq;simp only [if_true,X6] at hq
    repeat (first|(with_reducible first|refine ag.up ?_|refine fun (K:AK) hK=> ?_|(refine hK _ ?_;clear hK K))|simp only [go_sem,d1,e1,eN,hb]|with_reducible refine wA ?_|clear hK K)
    rw [hq]
  ·have d1:decide ((i:Int)<(l.length:Int))=false:=decide_eq_false (by omega);rw [VK h,A5,Wn] at hq
   repeat (first|(with_reducible first|refine ag.up ?_|refine fun (K:AK) hK=> ?_|(refine hK _ ?_;clear hK K))|simp only [go_sem,d1]|with_reducible refine wA ?_|clear hK K)
   rw [<-hq]
   congr 1
   rw [decide_eq_decide];omega
theorem JR (e:a8) (ho:qA e):ah Tryz.prog 50 [.agg (aU e)] (.v (.int .i64 (oQ e))):=by
 have C1:=ze e.aD ho.aD;have C2:=ze e.to ho.to;have C3:=GA e.label ho.label;have C4:=KP e.props ho.props ho.len;have C5:=R6 e.time;generalize hR:oQ e=R;rw [oQ] at hR;simp only [aU]
 (refine ah.enter Tryz.func50 rfl (by kernel_rfl) (by kernel_rfl) rfl (by simp only [go_sem,bp,AV.wf,WT,Wg,Wn,fC]) (by simp only [go_sem,bp,AV.wf,dB,WT,Wg,Wn,fC]) ?_;simp only [Tryz.ntmps50,Tryz.results50,U9,U3,Nat.reduceAdd,Nat.reduceSub,WW,WX,WY,WZ])
 repeat (first|(with_reducible first|refine ag.up ?_|refine fun (K:AK) hK=> ?_|(refine hK _ ?_;clear hK K))|simp only [go_sem]|clear hK K)
 refine ab.one C1 ?_
 cases h1:gJ e.aD
 ·rw [h1] at hR;simp only [X6,Wy,if_false] at hR
  repeat (first|(with_reducible first|refine ag.up ?_|refine fun (K:AK) hK=> ?_|(refine hK _ ?_;clear hK K))|simp only [go_sem,h1]|clear hK K)
  rw [<-hR]
 rw [h1] at hR
 repeat (first|(with_reducible first|refine ag.up ?_|refine fun (K:AK) hK=> ?_|(refine hK _ ?_;clear hK K))|simp only [go_sem,h1]|clear hK K)
 refine ab.one C2 ?_
 cases h2:gJ e.to
 ·rw [h2] at hR;simp only [X6,X7,Wy,if_false] at hR
  repeat (first|(with_reducible first|refine ag.up ?_|refine fun (K:AK) hK=> ?_|(refine hK _ ?_;clear hK K))|simp only [go_sem,h2]|clear hK K)
  rw [<-hR]
 rw [h2] at hR
 repeat (first|(with_reducible first|refine ag.up ?_|refine fun (K:AK) hK=> ?_|(refine hK _ ?_;clear hK K))|simp only [go_sem,h2]|clear hK K)
 refine ab.one C3 ?_
 cases h3:cZ e.label
 ·rw [h3] at hR;simp only [X6,X7,Wy,if_false] at hR
  repeat (first|(with_reducible first|refine ag.up ?_|refine fun (K:AK) hK=> ?_|(refine hK _ ?_;clear hK K))|simp only [go_sem,h3]|clear hK K)
  rw [<-hR]
 rw [h3] at hR
 repeat (first|(with_reducible first|refine ag.up ?_|refine fun (K:AK) hK=> ?_|(refine hK _ ?_;clear hK K))|simp only [go_sem,h3]|clear hK K)
 refine ab.one C4 ?_
 cases h4:yA e.props
 ·rw [h4] at hR;simp only [X7,Wy,if_false] at hR
  repeat (first|(with_reducible first|refine ag.up ?_|refine fun (K:AK) hK=> ?_|(refine hK _ ?_;clear hK K))|simp only [go_sem,h4]|clear hK K)
  rw [<-hR]
 rw [h4] at hR;simp only [WT,if_true] at hR
 repeat (first|(with_reducible first|refine ag.up ?_|refine fun (K:AK) hK=> ?_|(refine hK _ ?_;clear hK K))|simp only [go_sem,h4]|clear hK K)
 by_cases h5:0<=e.time∧e.time<=1099511627776
 ·rw [decide_eq_true h5] at C5;rw [if_pos (show 0<=e.time∧e.time<=xu from h5)] at hR;refine ab.one C5 ?_
  repeat (first|(with_reducible first|refine ag.up ?_|refine fun (K:AK) hK=> ?_|(refine hK _ ?_;clear hK K))|simp only [go_sem]|clear hK K)
  rw [<-hR]
 ·rw [decide_eq_false h5] at C5;rw [if_neg (show ¬(0<=e.time∧e.time<=xu) from h5)] at hR;refine ab.one C5 ?_
  repeat (first|(with_reducible first|refine ag.up ?_|refine fun (K:AK) hK=> ?_|(refine hK _ ?_;clear hK K))|simp only [go_sem]|clear hK K)
  rw [<-hR]
def wO (l:List ((ByteArray×List a8)×Nat)):List (List AV):=l.map (fun p=>[.v (.string p.1.1), .vec p.2 p.1.2.length])
def zn (v:ByteArray):List ((ByteArray×List a8)×Nat)->Option ((ByteArray×List a8)×Nat)
 | []=>none
 | p :: l=>if p.1.1=v then some p else zn v l
theorem Ho (v:ByteArray): ∀l,ky .string (.string v) (wO l)=some ((zn v l).map fun p=> .vec p.2 p.1.2.length)
 | []=>rfl
 | p :: l=>by
  rw [wO,WR,ky,zn];simp only [cC,if_true,dh,jw]
  by_cases e:p.1.1=v
  ·rw [if_pos e,decide_eq_true e.symm];rfl
  ·rw [if_neg e,decide_eq_false (Ne.symm e)];exact Ho v l
def wP (e:a8) (id:Nat):List ((ByteArray×List a8)×Nat)->List ((ByteArray×List a8)×Nat)
 | []=>[((e.aD,[e]),id)]
 | p :: l=>if p.1.1=e.aD then ((p.1.1,p.1.2++[e]),p.2) :: l else p :: wP e id l
theorem vX (e:a8) (id:Nat): ∀l,(wP e id l).map Prod.fst=vC e (l.map Prod.fst)
 | []=>rfl
 | p :: l=>by
  rw [wP,WR,vC]
  by_cases h:p.1.1=e.aD
  ·rw [if_pos h,if_pos h];rfl
  ·rw [if_neg h,if_neg h,WR,vX e id l]
theorem j4 {e:a8} (id:Nat): ∀ {l},zn e.aD l=none->jF .string (.string e.aD) (.vec id 1) (wO l)=some (wO (wP e id l))∧wP e id l=l++[((e.aD,[e]),id)]
 | [],_=>⟨rfl,rfl⟩
 | p :: l,h=>by
  rw [zn] at h
  split at h
  ·cases h
  ·rename_i hn;obtain ⟨h1,h2⟩:=j4 id h;rw [wO,WR,jF,wP,if_neg hn];simp only [cC,if_true,dh,jw,decide_eq_false (Ne.symm hn),Bool.false_eq_true,if_false];refine ⟨?_,by rw [h2];rfl⟩;show Option.map _ (jF .string (.string e.aD) (.vec id 1) (wO l))=_;rw [h1];rfl
theorem rY {e:a8} (id:Nat) {q:(ByteArray×List a8)×Nat}: ∀ {l},zn e.aD l=some q->jF .string (.string e.aD) (.vec q.2 (q.1.2.length+1)) (wO l)=some (wO (wP e id l))
 | [],h=>by cases h
 | p :: l,h=>by
  rw [zn] at h;rw [wO,WR,jF,wP];simp only [cC,if_true,dh,jw]
  split at h
  ·rename_i hp;cases h;rw [decide_eq_true hp.symm,if_pos rfl,if_pos hp];simp only [wO,WR,U8,XM,hp]
  ·rename_i hn;rw [decide_eq_false (Ne.symm hn),if_neg hn];simp only [Bool.false_eq_true,if_false];show Option.map _ (jF .string (.string e.aD) _ (wO l))=_;rw [rY id h];rfl
theorem j0 {v:ByteArray} {q:(ByteArray×List a8)×Nat}: ∀ {l},zn v l=some q->q∈l
 | [],h=>by cases h
 | p :: l,h=>by
  rw [zn] at h
  split at h
  ·cases h;exact V4
  ·exact V2 _ (j0 h)
theorem Cp {e:a8} (id:Nat) {q:(ByteArray×List a8)×Nat}: ∀ {l},zn e.aD l=some q->(wP e id l).map Prod.snd=l.map Prod.snd
 | [],h=>by cases h
 | p :: l,h=>by
  rw [zn] at h;rw [wP]
  split at h
  ·rename_i hp;rw [if_pos hp];rfl
  ·rename_i hn;rw [if_neg hn,WR,WR,Cp id h]
theorem nM {e:a8} (id:Nat) {q:(ByteArray×List a8)×Nat}: ∀ {l},(l.map Prod.snd).Nodup->zn e.aD l=some q-> ∀p∈wP e id l,p=((q.1.1,q.1.2++[e]),q.2)∨(p∈l∧p.2≠q.2)
 | [],_,h=>by cases h
 | a :: l,hn,h=>by
  rw [zn] at h;rw [wP];rw [WR,List.nodup_cons] at hn;intro p hp
  split at h
  ·rename_i ha;cases h;rw [if_pos ha] at hp
   rcases Wr.1 hp with rfl|hp
   ·exact .inl rfl
   ·exact .inr ⟨V2 _ hp,fun e=>hn.1 (e ▸ Wu.2 ⟨p,hp,rfl⟩)⟩
  ·rename_i ha;rw [if_neg ha] at hp
   rcases Wr.1 hp with rfl|hp
   ·exact .inr ⟨V4,fun e=>hn.1 (e ▸ Wu.2 ⟨q,j0 h,rfl⟩)⟩
   ·rcases nM id hn.2 h p hp with k|⟨k1,k2⟩
    ·exact .inl k
    ·exact .inr ⟨V2 _ k1,k2⟩
structure Ji (r wv:aa) (o:List (Option aa)) (l:List ((ByteArray×List a8)×Nat)):Prop where
 r:o[1]? = some (some r)
 m:o[2]? = some (some ⟨64,0,false,wO l⟩)
 w:o[3]? = some (some wv)
 nd:(l.map Prod.snd).Nodup
 lo: ∀p∈l,4<=p.2
 row: ∀p∈l,o[p.2]? = some (some ⟨35,5,true,p.1.2.map aU⟩)
 wf: ∀ob,some ob∈o->bZ o.length ob.rows=true
theorem By {n:Nat}: ∀ {l:List ((ByteArray×List a8)×Nat)},(∀p∈l,p.2<n)->bZ n (wO l)=true
 | [],_=>rfl
 | p :: l,h=>by
  have h1:=h p V4;have h2:=By (l:=l) fun q hq=>h q (V2 _ hq);simp only [wO,WR,bZ,bp,AV.wf,decide_eq_true h1,Bool.and_true,Bool.true_and];exact h2
theorem qD {n:Nat}: ∀ {o:List (Option aa)},(∀ob,some ob∈o->bZ n ob.rows=true)->aY n o o
 | [],_=>trivial
 | x :: o,h=>⟨.inr ⟨rfl,fun ob e=>h ob (e ▸ V4)⟩,qD fun ob hb=>h ob (V2 _ hb)⟩
theorem Ji.lt {r wv:aa} {o:List (Option aa)} {l:List ((ByteArray×List a8)×Nat)} (h:Ji r wv o l):3<o.length:=(U4.1 h.w).1
theorem Ji.ku {r wv:aa} {o:List (Option aa)} {l:List ((ByteArray×List a8)×Nat)} {e:a8} {q:(ByteArray×List a8)×Nat} {b:List (Option aa)} (id:Nat) (hbw: ∀ob,some ob∈b-> ∀n,bZ n ob.rows=true) (h:Ji r wv o l) (hq:zn e.aD l=some q) :
  Ji r wv (((o++b).set q.2 (some ⟨35,5,true,q.1.2.map aU++[aU e]⟩)).set 2 (some ⟨64,0,false,wO (wP e id l)⟩)) (wP e id l):=by
 have hl:=h.lt;have hq4:=h.lo q (j0 hq);have hqr:=h.row q (j0 hq);have hql:=(U4.1 hqr).1
 have ap: ∀ {k:Nat} {x:Option aa},o[k]? = some x->(o++b)[k]? = some x:=fun {k x} hk=>by rw [U5 (U4.1 hk).1];exact hk
 refine ⟨?_, ?_, ?_,by rw [Cp id hq];exact h.nd,fun p hp=> ?_,fun p hp=> ?_,fun ob hob=> ?_⟩
 ·rw [Vp (by omega),Vp (by omega)];exact ap h.r
 ·rw [Vq (by simp;omega)]
 ·rw [Vp (by omega),Vp (by omega)];exact ap h.w
 ·rcases nM id h.nd hq p hp with rfl|⟨k1,_⟩
  ·exact hq4
  ·exact h.lo p k1
 ·rcases nM id h.nd hq p hp with rfl|⟨k1,k2⟩
  ·rw [Vp (by omega),Vq (by simp;omega)];simp only [XK,WR,List.map_nil]
  ·have:=h.lo p k1
   rw [Vp (by omega),Vp (Ne.symm k2)];exact ap (h.row p k1)
 ·simp only [XG,U8]
  rcases X8 hob with hob|hob
  ·rcases X8 hob with hob|hob
   ·rcases Ww.1 hob with hob|hob
    ·exact sK (by omega) _ (h.wf ob hob)
    ·exact hbw ob hob _
   ·cases hob
    have:=dJ (o.length+b.length) (q.1.2++[e])
    simpa only [XK,WR,List.map_nil] using this
  ·cases hob;refine By fun p hp=> ?_
   rcases nM id h.nd hq p hp with rfl|⟨k1,_⟩
   ·simp only;omega
   ·have:=(U4.1 (h.row p k1)).1;omega
theorem Ji.new {r wv:aa} {o:List (Option aa)} {l:List ((ByteArray×List a8)×Nat)} {e:a8} {b:List (Option aa)} (hbw: ∀ob,some ob∈b-> ∀n,bZ n ob.rows=true) (h:Ji r wv o l) (hq:zn e.aD l=none) :
  Ji r wv ((o++b++[some (⟨35,5,true,[aU e]⟩:aa)]).set 2 (some ⟨64,0,false,wO (wP e (o.length+b.length) l)⟩)) (wP e (o.length+b.length) l):=by
 have hl:=h.lt
 have ap: ∀ {k:Nat} {x:Option aa},o[k]? = some x->(o++b++[some (⟨35,5,true,[aU e]⟩:aa)])[k]? = some x:=fun {k x} hk=>by
  have hk':=(U4.1 hk).1;rw [Vv,U5 hk'];exact hk
 have hS:=(j4 (e:=e) (o.length+b.length) hq).2;have hb: ∀p∈l,p.2<o.length:=fun p hp=>(U4.1 (h.row p hp)).1
 refine ⟨?_, ?_, ?_, ?_,fun p hp=> ?_,fun p hp=> ?_,fun ob hob=> ?_⟩
 ·rw [Vp (by omega)];exact ap h.r
 ·rw [Vq (by simp;omega)]
 ·rw [Vp (by omega)];exact ap h.w
 ·rw [hS,XK];refine List.nodup_append.2 ⟨h.nd,by simp,fun a ha c hc e1=> ?_⟩;obtain ⟨p,hp,rfl⟩:=Wu.1 ha
  have:=hb p hp
  simp at hc;omega
 ·rw [hS] at hp
  rcases Ww.1 hp with hp|hp
  ·exact h.lo p hp
  ·rw [Xq.1 hp];simp only;omega
 ·rw [hS] at hp
  rcases Ww.1 hp with hp|hp
  ·have:=h.lo p hp
   rw [Vp (by omega)];exact ap (h.row p hp)
  ·rw [Xq.1 hp];simp only;rw [Vp (by omega),Vy (by simp)];simp
 ·simp only [XG,U8,XM]
  rcases X8 hob with hob|hob
  ·rcases Ww.1 hob with hob|hob
   ·rcases Ww.1 hob with hob|hob
    ·exact sK (by omega) _ (h.wf ob hob)
    ·exact hbw ob hob _
   ·rw [Xq] at hob;cases hob;exact dJ _ [e]
  ·cases hob;refine By fun p hp=> ?_;rw [hS] at hp
   rcases Ww.1 hp with hp|hp
   ·have:=hb p hp;omega
   ·rw [Xq.1 hp];simp only;omega
theorem cB.UA {o:List (Option aa)} {id:Nat} {ob:aa} (ho:o[id]? = some (some ob)) (hv:ob.du=false) (hz:ob.z=0) {rows':List (List AV)} (hlen:rows'.length=ob.rows.length)
  (hr: ∀(i:Nat) row row',ob.rows[i]? = some row->rows'[i]? = some row'->sU o row row'):cB o (.vec id 0) (.mp rows'):=fun D nu w x hro hra=>by
 have hx:x=nu id 0:=by
  cases hra with
  | vec=>rfl
 subst hx
 have get: ∀(i:Nat) row',rows'[i]? = some row'-> ∃row,ob.rows[i]? = some row∧row'.length=row.length∧ ∀(j:Nat) c',row'[j]? = some c'-> ∃c,row[j]? = some c∧cB o c c':=fun i row' h=>by
  have hi:i<ob.rows.length:=by rw [<-hlen];exact (U4.1 h).1
  obtain ⟨h1,h2⟩:=(hr i _ row' (Vi hi) h).at';refine ⟨_,Vi hi,h1.symm,fun j c' hc=> ?_⟩
  have hj:j<ob.rows[i].length:=by rw [h1];exact (U4.1 hc).1
  exact ⟨_,Vi hj,h2 j _ c' (Vi hj) hc⟩
 rcases hro.obj id ob ho with ⟨e1,_⟩|⟨g,cur,hb⟩|⟨g,es,cl,hm⟩
 ·rw [e1] at hv;cases hv
 ·have:=hb.z;omega
 ·rw [hm.p8]
  refine .mp _ g es cl ⟨(Array.getElem?_eq_some_iff.1 hm.blk).1,bd _ _,hm.ko⟩ hm.blk (by rw [hm.sz,hlen]) (fun i row' h=> ?_) hm.born hm.iC (fun i j row' c' e k1 k2 k3=> ?_)
  ·obtain ⟨row,r1,r2,_⟩:=get i row' h;rw [r2];exact hm.row i row r1
  ·obtain ⟨row,r1,r2,r3⟩:=get i row' k1;obtain ⟨c,r4,r5⟩:=r3 j c' k2;have hl:=hm.row i row r1;have hj:=(U4.1 r4).1
   match j,hj,r4 with
   | 0,_,r4=>exact r5 D nu w _ hro (hm.key i row c e r1 r4 k3)
   | 1,_,r4=>exact r5 D nu w _ hro (hm.val i row c e r1 r4 k3)
   | j+2,hj,_=>omega
theorem cB.agg {o:List (Option aa)} {l m:List AV} (h:sU o l m):cB o (.agg l) (.agg m):=fun D nu w x hro hra=>by
 obtain ⟨h1,h2⟩:=h.at'
 cases hra with
 | agg cs xs k1 k2 k3=>
  have r:=h.UG hro ⟨k1,k2⟩;exact .agg _ _ r.len r.at' k3
def pN (A:mW) (E:List a8):AV:=if e9 E=0 then .cy [.agg [.vp (cd A), .mp (dT (xV E))], .v (.int .i64 0)] else .cy [.agg [.v (.pointer none), .v (.map none)], .v (.int .i64 (e9 E))]
theorem IT (A:mW) (E:List a8):(pN A E).wf 0=true:=by
 unfold pN
 split
 ·simp only [AV.wf,bp,dI,gr,Bool.and_self]
 ·rfl
theorem MU (x:Ex) (A:mW) (E:List a8) (C:ah Tryz.prog 49 [.agg (bC x)] (.cy [.vp (cd A), .v (.int .i64 0)])) (hok: ∀e∈E,qA e) (hl:E.length<=16777216):ah Tryz.prog 27 [.agg (bC x), .aH 5 (E.map aU) E.length] (pN A E):=by
 have hA:bp 0 [.agg (bC x), .aH 5 (E.map aU) E.length]=true:=by simp only [bp,AV.wf,lu,dJ,Bool.and_self]
 have hF:=IT A E;generalize hR:pN A E=R at *;rw [aN] at C ⊢;rw [aN] at hA
 (refine ah.oT Tryz.func27 rfl (by kernel_rfl) (by kernel_rfl) rfl hA hF ?_;simp only [Tryz.ntmps27,Tryz.results27,U9,U3,Nat.reduceAdd,Nat.reduceSub,List.replicate_succ,List.replicate_zero,WY,WZ])
 repeat (first|(with_reducible first|refine ag.up ?_|refine fun (K:AK) hK=> ?_|refine ae (by decide) ?_|(refine hK _ ?_;clear hK K))|simp only [go_sem]|with_reducible refine wA ?_|(refine ak rfl ?_)|(refine ai rfl ?_)|clear hK K)
 refine ab.one C ?_
 repeat (first|(with_reducible first|refine ag.up ?_|refine fun (K:AK) hK=> ?_|refine ae (by decide) ?_|(refine hK _ ?_;clear hK K))|simp only [go_sem]|with_reducible refine wA ?_|(refine ak rfl ?_)|(refine ai rfl ?_)|clear hK K)
 refine bI (ι:=List (Option aa)×Nat×List ((ByteArray×List a8)×Nat)) 2 (fun x=>[(4, .ptr 1 0 2 0 0),(5, .v (.int .i64 0)),(8, .ptr 3 0 2 0 0),(24, .aH 5 (E.map aU) E.length),(25, .v (.int .i64 (E.length:Nat))),(26, .v (.int .i64 (x.2.1:Nat)))]) (fun x=>x.1) (fun x=>E.length - x.2.1)
  (fun x=>Ji ⟨66,2,false,[[.v (.pointer none), .v (.map none)]]⟩ ⟨66,2,false,[[.vp (cd A), .vec 2 0]]⟩ x.1 x.2.2∧x.2.1<=E.length∧(E.drop x.2.1).foldl (fun G e=>vC e G) (x.2.2.map Prod.fst)=xV E∧e9 (E.drop x.2.1)=e9 E∧ ∀p∈x.2.2,p.1.2.length<=x.2.1)
  ([none,some ⟨66,2,false,[[.v (.pointer none), .v (.map none)]]⟩,some ⟨64,0,false,[]⟩,some ⟨66,2,false,[[.vp (cd A), .vec 2 0]]⟩],0,[]) ⟨⟨rfl,rfl,rfl,List.nodup_nil,fun p h=>(by cases h),fun p h=>(by cases h), ?_⟩,Nat.zero_le _,rfl,rfl,fun p h=>(by cases h)⟩ ?_ ?_
 ·intro ob hob;simp only [Wr,Option.some.injEq,List.not_mem_nil,or_false,reduceCtorEq,false_or] at hob
  rcases hob with rfl|rfl|rfl
  ·rfl
  ·rfl
  ·simp only [bZ,bp,AV.wf,dI,Bool.and_true];rfl
 ·(refine aq ?_ ?_ ?_<;>simp only [aD,List.foldl_cons,List.foldl_nil,List.replicate_succ,List.replicate_zero,aW,aY,AV.v.injEq,Value.int.injEq,Value.bool.injEq,Value.string.injEq,AV.vec.injEq,AV.ptr.injEq,true_or,or_true,false_or,or_false,aa.mk.injEq,forall_eq_apply_imp_iff,forall_eq,forall_eq',go_sem])
  all_goals first|rfl|trace_state
 ·rintro ⟨o,i,l⟩ ⟨hI,hi,hg,he,hle⟩ K hK;simp only at hI hi hg he hle ⊢;have hlt:=hI.lt;have ow: ∀b:List (Option aa),(o++b)[3]? = _:=fun b=>(U5 hlt).trans hI.w;have om: ∀b:List (Option aa),(o++b)[2]? = _:=fun b=>(U5 (by omega)).trans hI.m;have orr: ∀b:List (Option aa),(o++b)[1]? = _:=fun b=>(U5 (by omega)).trans hI.r
  have oe: ∀(b:Option aa) t,(o++b :: t)[o.length]? = some b:=fun b t=>by rw [Vy (Nat.le_refl _),Nat.sub_self];rfl
  have s23: ∀(L:List (Option aa)) x,(L.set 2 x)[3]? = L[3]? :=fun L x=>Vp (by decide);have s2l: ∀(L:List (Option aa)) x,(L.set 2 x)[o.length]? = L[o.length]? :=fun L x=>Vp (by omega)
  have ot: ∀a b:Option aa,(o++[a]).set o.length b=o++[b]:=fun a b=>by rw [List.set_append_right _ _ (Nat.le_refl _),Nat.sub_self];rfl
  have eN:(E.map aU).length=E.length:=by simp
  have iw:=hI.w;have im:=hI.m;have ir:=hI.r
  rcases Nat.lt_or_ge i E.length with h|h
  ·have d1:decide ((i:Int)<(E.length:Int))=true:=decide_eq_true (by omega);have e1:=nC h;have CK:=JR _ (hok _ (List.getElem_mem h));have hq:=Gr h;rw [hq] at he;rw [List.drop_eq_getElem_cons h,List.foldl_cons] at hg;have ws:=aB (k:=i) (by omega);generalize E[i]=e at *;simp only [aU] at CK
   repeat (first|(with_reducible first|refine ag.up ?_|refine fun (K:AK) hK=> ?_|refine ae (by decide) ?_|(refine hK _ ?_;clear hK K))|simp only [go_sem,d1,e1,eN,oe,ot]|with_reducible refine wA ?_|(refine ak rfl ?_)|(refine ai rfl ?_)|clear hK K)
   refine ab.one CK ?_
   by_cases h0:oQ e=0
   ·have z0:(oQ e !=0)=false:=by simp [h0]
    have og:=Ho e.aD l
    cases hov:zn e.aD l with
    | none=>
     rw [hov] at og;simp only [Option.map_none] at og;have os:=(j4 (e:=e) (o.length+1) hov).1
     repeat ((fail_if_success (with_reducible refine bL (i:=11) ?_));first|(with_reducible first|refine ag.up ?_|refine fun (K:AK) hK=> ?_|refine ae (by decide) ?_|(refine hK _ ?_;clear hK K))|simp only [go_sem,z0]|with_reducible refine wA ?_|(refine ak rfl ?_)|(refine ai rfl ?_)|clear hK K)
     refine dt [11,12] [(1,1000),(3,1000)] (by decide+kernel) (by kernel_rfl) ?_
     repeat (first|(with_reducible first|refine ag.up ?_|refine fun (K:AK) hK=> ?_|refine ae (by decide) ?_|(refine hK _ ?_;clear hK K))|simp only [go_sem,oe,ow,om,og,os,s23,s2l]|with_reducible refine wA ?_|(refine ak rfl ?_)|(refine ai rfl ?_)|clear hK K)
     repeat (first|(with_reducible first|refine ag.up ?_|refine fun (K:AK) hK=> ?_|refine ae (by decide) ?_|(refine hK _ ?_;clear hK K))|simp only [go_sem,ws]|with_reducible refine wA ?_|(refine ak rfl ?_)|(refine ai rfl ?_)|clear hK K)
     have hI2:=hI.new (e:=e) (b:=[some ⟨35,5,false,[aU e]⟩]) (fun ob hob n=>by rw [Xq] at hob;cases hob;exact dJ n [e]) hov;simp only [aU,Vv,WY,WZ,U9,U3,Nat.zero_add] at hI2;rw [<-vX e (o.length+1)] at hg;rw [if_neg (by simp [h0])] at he
     refine aJ.mk (_,i+1,wP e (o.length+1) l) ⟨hI2,h,hg,he,fun p hp=>(by
      rw [(j4 (e:=e) (o.length+1) hov).2] at hp
      rcases Ww.1 hp with hp|hp
      ·have:=hle p hp;simp only;omega
      ·rw [Xq.1 hp];simp)⟩ (show E.length - (i+1)<E.length - i by omega) (aq ?_ (qD hI2.wf) (Nat.zero_le _))
     have h1:1<o.length:=by omega
     simp only [go_sem,aW,true_or,or_true,true_and,and_true,XG,U8,U9,U3];exact ⟨.inr (decide_eq_true (by omega)), .inr (decide_eq_true (by omega))⟩
    | some q=>
     rw [hov] at og;simp only [Option.map_some] at og;have os:=rY (e:=e) 0 hov;have hqr:=hI.row q (j0 hov);have hq4:=hI.lo q (j0 hov);have hql:=(U4.1 hqr).1;have hqle:=hle q (j0 hov);have oq: ∀b:List (Option aa),(o++b)[q.2]? = _:=fun b=>(U5 hql).trans hqr;have sq3: ∀(L:List (Option aa)) x,(L.set q.2 x)[3]? = L[3]? :=fun L x=>Vp (by omega);have sq2: ∀(L:List (Option aa)) x,(L.set q.2 x)[2]? = L[2]? :=fun L x=>Vp (by omega);have sql: ∀(L:List (Option aa)) x,(L.set q.2 x)[o.length]? = L[o.length]? :=fun L x=>Vp (by omega)
     repeat ((fail_if_success (with_reducible refine bL (i:=11) ?_));first|(with_reducible first|refine ag.up ?_|refine fun (K:AK) hK=> ?_|refine ae (by decide) ?_|(refine hK _ ?_;clear hK K))|simp only [go_sem,z0]|with_reducible refine wA ?_|(refine ak rfl ?_)|(refine ai rfl ?_)|clear hK K)
     refine dt [11,12] [(1,1000),(3,1000)] (by decide+kernel) (by kernel_rfl) ?_
     repeat (first|(with_reducible first|refine ag.up ?_|refine fun (K:AK) hK=> ?_|refine ae (by decide) ?_|(refine hK _ ?_;clear hK K))|simp only [go_sem,oe,ow,om,og,os,s23,s2l,oq,sq3,sq2,sql]|with_reducible refine wA ?_|(refine ak rfl ?_)|(refine ai rfl ?_)|clear hK K)
     repeat (first|(with_reducible first|refine ag.up ?_|refine fun (K:AK) hK=> ?_|refine ae (by decide) ?_|(refine hK _ ?_;clear hK K))|simp only [go_sem,ws]|with_reducible refine wA ?_|(refine ak rfl ?_)|(refine ai rfl ?_)|clear hK K)
     have hI2:=hI.ku (e:=e) (b:=[some ⟨35,5,false,[aU e]⟩]) 0 (fun ob hob n=>by rw [Xq] at hob;cases hob;exact dJ n [e]) hov;simp only [aU,Vv,WY,WZ,U9,U3,Nat.zero_add] at hI2;rw [<-vX e 0] at hg;rw [if_neg (by simp [h0])] at he
     refine aJ.mk (_,i+1,wP e 0 l) ⟨hI2,h,hg,he,fun p hp=>(by
      rcases nM 0 hI.nd hov p hp with rfl|⟨k1,_⟩
      ·simp only [U8,XM];omega
      ·have:=hle p k1;simp only;omega)⟩ (show E.length - (i+1)<E.length - i by omega) (aq ?_ (qD hI2.wf) (Nat.zero_le _))
     simp only [go_sem,aW,true_or,or_true,true_and,and_true,XG,U8,U9,U3];exact ⟨.inr (decide_eq_true (by omega)), .inr (decide_eq_true (by omega))⟩
   ·have z0:(oQ e !=0)=true:=by simp [h0]
    have os1: ∀a b:Option aa,((o++[a]).set 1 b)[1]? = some b:=fun a b=>Vq (by simp;omega)
    repeat (first|(with_reducible first|refine ag.up ?_|refine fun (K:AK) hK=> ?_|refine ae (by decide) ?_|(refine hK _ ?_;clear hK K))|simp only [go_sem,z0,oe,ow,om,orr,os1]|with_reducible refine wA ?_|(refine ak rfl ?_)|(refine ai rfl ?_)|clear hK K)
    rw [if_pos h0] at he;rw [<-hR,pN,if_neg (by rw [<-he];exact h0), <- he];exact cB.cy ⟨cB.agg ⟨cB.v _,cB.v _,trivial⟩,cB.v _,trivial⟩
  ·have d1:decide ((i:Int)<(E.length:Int))=false:=decide_eq_false (by omega);have os: ∀b:Option aa,(o.set 1 b)[1]? = some b:=fun b=>Vq (by omega)
   repeat (first|(with_reducible first|refine ag.up ?_|refine fun (K:AK) hK=> ?_|refine ae (by decide) ?_|(refine hK _ ?_;clear hK K))|simp only [go_sem,d1,iw,im,ir,os]|with_reducible refine wA ?_|(refine ak rfl ?_)|(refine ai rfl ?_)|clear hK K)
   have he0:e9 E=0:=by rw [<-he,VK h];rfl
   rw [VK h,List.foldl_nil] at hg;rw [<-hR,pN,if_pos he0, <- hg];have sm: ∀x,(o.set 1 x)[2]? = o[2]? :=fun x=>Vp (by decide);refine cB.cy ⟨cB.agg ⟨cB.of 3 (p:=(AV.vp (cd A)).wf 0=true) (by rw [fK]<;>simp) (by rw [AV.wf];exact dI _ _),cB.UA ((sm _).trans im) rfl rfl (by simp [dT,wO]) (fun k row row' k1 k2=> ?_),trivial⟩,cB.v _,trivial⟩;simp only [wO,dT,List.map_map,List.getElem?_map] at k1 k2
   cases hk:l[k]? with
   | none=>rw [hk] at k1;cases k1
   | some p=>
    rw [hk] at k1 k2;cases k1;cases k2;have hp:=List.mem_of_getElem? hk;have h4:=hI.lo p hp;have hr:=hI.row p hp;refine ⟨cB.v _,cB.ND (ob:=⟨35,5,true,p.1.2.map aU⟩) ((Vp (by omega)).trans hr) rfl (by simp) (dJ _ _),trivial⟩
def mN (x:Ex) (A:mW) (E:List a8):PL:=pf (iV A) (fun s=>dx A s) (dF x) A.rows.length E
noncomputable def fb (x:Ex) (E:List a8):Int:=match dE x (ck x) with
 | .inl _=>e9 E
 | .inr e=>e
noncomputable def fc (x:Ex) (E:List a8):PL:=match dE x (ck x) with
 | .inl A=>if e9 E=0 then mN x A E else []
 | .inr _=>[]
theorem tH {x:Ex} {e:Int} (h:dE x (ck x) = .inr e):e≠0:=by
 unfold dE at h
 split at h
 ·split at h
  ·split at h
   ·cases h;decide
   ·cases h
  ·cases h;decide
 ·cases h;decide
theorem v8 {x:Ex} {E:List a8} (h:fb x E=0): ∃A,dE x (ck x) = .inl A∧e9 E=0∧fc x E=mN x A E:=by
 unfold fb at h;unfold fc
 cases ha:dE x (ck x) with
 | inl A=>
  rw [ha] at h;simp only at h;exact ⟨A,rfl,h,by simp only [if_pos h]⟩
 | inr e=>
  rw [ha] at h;exact absurd h (tH ha)
theorem Bp {A:mW} (ok:AOk A): ∀s l t,iV A s l=some t->t<A.rows.length:=fun s l t h=>by
 unfold iV ln at h
 split at h
 ·rename_i hs
  have hs':s<A.rows.length:=by omega
  have e:((s:Nat):Int).toNat=s:=by simp
  rw [e] at h;exact (ok.row _ (bQ hs')).2 _ (rQ h)
 ·cases h
theorem rk {E:List a8} (h:e9 E=0): ∀e∈E,e.time<=xu:=fun e he=>(tP (oR h e he)).2
theorem iP {x:Ex} {A:mW} (ok:AOk A) {E:List a8} (h:e9 E=0):BJ (iV A) (fun s=>dx A s) (dF x) E (mN x A E):=AZ (Bp ok) (rk h)
def T9 (cut:Int) (E:List a8):List a8:=E.filter (fun e=>decide (cut<e.time))
def iy:PL->ByteArray->ByteArray->Int
 | [],_,_=> -1
 | p :: l,f,t=>if p.1.1=f∧p.1.2=t then p.2 else iy l f t
theorem pq: ∀ {L:PL} {f t:ByteArray} {τ:Int},fG L->((f,t),τ)∈L->iy L f t=τ
 | [],_,_,_,_,h=>by cases h
 | p :: l,f,t,τ,hr,h=>by
  rw [iy]
  rcases List.mem_cons.1 h with rfl|h
  ·rw [if_pos ⟨rfl,rfl⟩]
  ·have hr':=hr;rw [fG,List.pairwise_cons] at hr'
   rw [if_neg fun hp=> ?_]
   ·exact pq hr'.2 h
   ·have e:=hr'.1 _ h;rw [show p.1=(f,t) from Prod.ext hp.1 hp.2] at e;exact fO _ e
theorem EE {x:Ex} {E:List a8} (e:a8) (hok: ∀A,dE x (ck x) = .inl A->AOk A) (h:fb x E=0) (h':fb x (E++[e])=0) {p:K2×Int} (hp:p∈fc x E):p.2<=iy (fc x (E++[e])) p.1.1 p.1.2:=by
 obtain ⟨A,h1,h2,h3⟩:=v8 h;obtain ⟨A',k1,k2,k3⟩:=v8 h';rw [h1] at k1;cases k1;have S1:=iP (x:=x) (hok A h1) h2;have S2:=iP (x:=x) (hok A h1) k2;rw [h3] at hp;obtain ⟨k,τ⟩:=p;obtain ⟨σ,q1,q2⟩:=E0 (fun e he=>List.mem_append_left _ he) S1 S2 hp;rw [k3,pq S2.iC q1];exact q2
theorem EF {x:Ex} {E:List a8} (hok: ∀A,dE x (ck x) = .inl A->AOk A):fG (fc x E):=by
 unfold fc
 cases ha:dE x (ck x) with
 | inr e=>exact List.Pairwise.nil
 | inl A=>
  simp only
  split
  ·rename_i h;exact (iP (hok A ha) h).iC
  ·exact List.Pairwise.nil
inductive I4 (E:List a8) (f:ByteArray):ByteArray->List ByteArray->Int->Prop where
 | one (e:a8):e∈E->e.aD=f->I4 E f e.to [e.label] (min xu e.time)
 | more (e:a8) (w:List ByteArray) (τ:Int):I4 E f e.aD w τ->e∈E->I4 E f e.to (w++[e.label]) (min τ e.time)
theorem Ci {A:mW} {s:Nat} (hs:s<A.rows.length) (l:ByteArray):iV A s l=look (A.rows.getD s []) l:=by
 unfold iV ln
 have e:((s:Nat):Int).toNat=s:=by simp
 rw [if_pos (by omega),e]
theorem Cw (rows:List bn): ∀(u v:List ByteArray) (s:Nat),gz rows s (u++v)=(gz rows s u).bind (fun t=>gz rows t v)
 | [],v,s=>rfl
 | l :: u,v,s=>by
  rw [WY,gz,gz]
  cases look (rows.getD s []) l with
  | none=>rfl
  | some t=>exact Cw rows u v t
theorem Bk {A:mW} (ok:AOk A): ∀(w:List ByteArray) {s t:Nat},s<A.rows.length->gz A.rows s w=some t->t<A.rows.length
 | [],s,t,hs,h=>by rw [gz] at h;cases h;exact hs
 | l :: w,s,t,hs,h=>by
  rw [gz] at h
  cases hl:look (A.rows.getD s []) l with
  | none=>rw [hl] at h;cases h
  | some u=>
   rw [hl] at h;exact Bk ok w ((ok.row _ (bQ hs)).2 _ (rQ hl)) h
theorem I4.UH {A:mW} (ok:AOk A) {E:List a8} {f v:ByteArray} {w:List ByteArray} {τ:Int} (h:I4 E f v w τ): ∀ {s:Nat},gz A.rows 0 w=some s->wM (iV A) E τ f v s:=by
 induction h with
 | one e he hf=>
  intro s hs;rw [gz] at hs;refine .one e s he (by omega) hf ?_;rw [Ci ok.pos]
  cases hl:look (A.rows.getD 0 []) e.label with
  | none=>rw [hl] at hs;cases hs
  | some t=>rw [hl] at hs;simp only [gz] at hs;exact hs
 | more e w τ hw he ih=>
  intro s hs;rw [Cw] at hs
  cases hr:gz A.rows 0 w with
  | none=>rw [hr] at hs;cases hs
  | some u=>
   rw [hr,Option.bind_some,gz] at hs;refine .more e u s ((ih hr).less (by omega)) he (by omega) ?_;rw [Ci (Bk ok w ok.pos hr)]
   cases hl:look (A.rows.getD u []) e.label with
   | none=>rw [hl] at hs;cases hs
   | some t=>rw [hl] at hs;simp only [gz] at hs;exact hs
theorem EH {x:Ex} {E:List a8} (hok: ∀A,dE x (ck x) = .inl A->Fp x A) (h:fb x E=0) {f v:ByteArray} {w:List ByteArray} {τ:Int} (hw:I4 E f v w τ) (ht:ei x w=true):τ<=iy (fc x E) f v:=by
 obtain ⟨A,h1,h2,h3⟩:=v8 h;have L:=hok A h1;have S:=iP (x:=x) L.toAOk h2;have hg:=(L.Qm w).trans ht;rw [c6] at hg
 cases hr:gz A.rows 0 w with
 | none=>rw [hr] at hg;cases hg
 | some s=>
  rw [hr] at hg;simp only at hg;have hR:=hw.UH L.toAOk hr;have hs:=Bk L.toAOk w L.pos hr
  have hT:dx A s=true:=by
   unfold dx
   have e:((s:Nat):Int).toNat=s:=by simp
   rw [e,hg,decide_eq_true (by omega),decide_eq_true (by omega)];rfl
  obtain ⟨σ,q1,q2⟩:=S.all f v τ (.inr ⟨s,hT,hR⟩);rw [h3,pq S.iC q1];exact q2
def bV (p:K2×Int):List AV:=[.v (.string p.1.1), .v (.string p.1.2), .v (.int .i64 p.2)]
theorem fB (n:Nat) (l:PL):bZ n (l.map bV)=true:=aZ _ (fun _=>rfl) l
attribute [go_sem] fB
theorem DN {l:PL} (hn:(l.map Prod.fst).Nodup) {p:K2×Int} (hp:p∈b8 l):bJ l p.1=some p.2:=(ng hn).2 ((cW l).mem_iff.1 hp)
theorem Cr (l:PL) (hn:(l.map Prod.fst).Nodup) (hl:l.length<=1000000):ah Tryz.prog 32 [.mp (bB aX l)] (.aH 3 ((b8 l).map bV) (b8 l).length):=by
 have eW: ∀n,bZ n (bB aX l)=true:=fun n=>fD (fun _=>rfl) l;have KS:=MJ l;have SQ:=GZ l;have SF:=wm (gf:=99) (caps:=[.vp [.mp (bB aX l)]]) l hn hl (by rw [dL,List.map_map];exact SQ) (by simp only [bp,AV.wf,eW,Wg]);have hlen:(b8 l).length=l.length:=(cW l).length_eq
 have hA:bp 0 [.mp (bB aX l)]=true:=by simp only [bp,AV.wf,eW,Wg]
 have eWK: ∀n,bZ n ((b8 l).map fun p=>aX p.1)=true:=fun n=>aZ _ (fun _=>rfl) _
 have eL:((b8 l).map fun p=>aX p.1).length=l.length:=by simp [hlen]
 rw [hlen]
 (refine ah.enter Tryz.func32 rfl (by kernel_rfl) (by kernel_rfl) rfl (by simp only [go_sem,bp,AV.wf,WT,Wg,Wn,eW]) (by simp only [go_sem,bp,AV.wf,dB,WT,Wg,Wn,eW]) ?_;simp only [Tryz.ntmps32,Tryz.results32,U9,List.length_nil,Nat.reduceAdd,Nat.reduceSub,WW,WX,WY,WZ])
 repeat (first|(with_reducible first|refine ag.up ?_|refine fun (K:AK) hK=> ?_|refine wE ?_|refine wK ?_|refine wF ?_|(refine hK _ ?_;clear hK K))|simp only [go_sem]|with_reducible refine wA ?_|clear hK K)
 refine ab.one KS ?_
 repeat (first|(with_reducible first|refine ag.up ?_|refine fun (K:AK) hK=> ?_|refine wE ?_|refine wK ?_|refine wF ?_|(refine hK _ ?_;clear hK K))|simp only [go_sem]|with_reducible refine wA ?_|clear hK K)
 refine ab.fr [] SF List.nodup_nil rfl ?_ ?_ (fun k ob h=>by simp at h) ?_
 ·simp only [bw,AV.aV,aS _ _ (eW 0)]
 ·simp only [bp,AV.wf,eW,Wg]
 simp only [dW,List.map_cons,Xb,VB,Option.map_none,aa.aV,aS _ _ (eWK 0),WZ,List.append_nil]
 repeat (first|(with_reducible first|refine ag.up ?_|refine fun (K:AK) hK=> ?_|refine wE ?_|refine wK ?_|refine wF ?_|(refine hK _ ?_;clear hK K))|simp only [go_sem]|with_reducible refine wA ?_|clear hK K)
 refine jh (ι:=Nat) 2 37 3 rfl (by decide) 11 (fun i=>[(2, .vec 2 i),(5, .undef),(11, .v (.int .i64 i))]) (fun i=>[none,some ⟨74,2,true,(b8 l).map fun p=>aX p.1⟩,some ⟨37,3,true,((b8 l).take i).map bV⟩]) (fun i=>l.length - i) (fun i=>i<=l.length) 0 (Nat.zero_le _) ?_ ?_
 ·(refine aq ?_ ?_ ?_<;>simp only [aD,WJ,WK,WW,WX,aW,aY,AV.v.injEq,Value.int.injEq,Value.bool.injEq,Value.string.injEq,AV.vec.injEq,AV.ptr.injEq,true_or,or_true,false_or,or_false,aa.mk.injEq,forall_eq_apply_imp_iff,forall_eq,forall_eq',go_sem])
  all_goals first|exact ⟨eW _,eW _,eW _,rfl⟩|exact eWK _|trace_state
 ·rintro i hi K hK
  rcases Nat.lt_or_ge i l.length with h|h
  ·have d1:decide ((i:Int)<(l.length:Int))=true:=decide_eq_true (by omega)
   have hs:i<(b8 l).length:=by omega
   have e1:((b8 l).map fun p=>aX p.1).getD i []=[.v (.string (b8 l)[i].1.1), .v (.string (b8 l)[i].1.2)]:=by rw [getD_map (fun p:K2×Int=>aX p.1) (b8 l) i [] hs];rfl
   have g1:=jk GW (b8 l)[i].1 l;rw [DN hn (List.getElem_mem hs)] at g1;have g3:=GW (b8 l)[i].1 (b8 l)[i].1;rw [decide_eq_true rfl] at g3;simp only [aX,VB] at g1 g3
   have tt:iD Tryz.prog 74=some [.s, .s]:=by kernel_rfl
   have ws:=aB (k:=i) (by omega)
   have eM:((b8 l).take (i+1)).map bV=((b8 l).take i).map bV++[[.v (.string (b8 l)[i].1.1), .v (.string (b8 l)[i].1.2), .v (.int .i64 (b8 l)[i].2)]]:=by rw [Xe hs,List.map_append];rfl
   have eT:(((b8 l).take i).map bV).length=i:=by simp;omega
   have eW3:=fB 3 ((b8 l).take (i+1))
   repeat (first|(with_reducible first|refine ag.up ?_|refine fun (K:AK) hK=> ?_|refine wE ?_|refine wK ?_|refine wF ?_|(refine hK _ ?_;clear hK K))|simp only [go_sem,d1,e1,eL,g1,g3,tt,eT,ws]|with_reducible refine wA ?_|clear hK K)
   refine aJ.mk (i+1) h (by omega) ?_;rw [eM] at eW3 ⊢
   (refine aq ?_ ?_ ?_<;>simp only [aD,WJ,WK,WW,WX,aW,aY,AV.v.injEq,Value.int.injEq,Value.bool.injEq,Value.string.injEq,AV.vec.injEq,AV.ptr.injEq,true_or,or_true,false_or,or_false,aa.mk.injEq,forall_eq_apply_imp_iff,forall_eq,forall_eq',go_sem])
   all_goals first|exact eW _|exact eWK _|trace_state
  ·have e0:i=l.length:=by omega
   have d1:decide ((l.length:Int)<(l.length:Int))=false:=decide_eq_false (by omega);have e2:(b8 l).take l.length=b8 l:=List.take_of_length_le (by omega);simp only [e0,e2]
   repeat (first|(with_reducible first|refine ag.up ?_|refine fun (K:AK) hK=> ?_|refine wE ?_|refine wK ?_|refine wF ?_|(refine hK _ ?_;clear hK K))|simp only [go_sem,d1]|with_reducible refine wA ?_|clear hK K)
   refine jb.of 40 rfl ?_;simp only [go_sem,hlen,List.length_map]
theorem ab.KU {id:Nat} {l:PL} {k:K2} {τ:Int} {o:List (Option aa)} {K:AV->List (Option aa)->Prop} (ho:o[id]? = some (some ⟨70,0,false,bB aX l⟩))
  (h:K (.v (.bool (iH l k τ))) (o.set id (some ⟨70,0,false,bB aX (fm l k τ)⟩))):ab Tryz.prog 29 [.vec id 0, .agg (aX k), .v (.int .i64 τ)] o K:=by
 have eW: ∀n l,bZ n (bB aX l)=true:=fun n l=>fD (fun _=>rfl) l
 refine ab.fr [id] (M8 l k τ) (by simp) ?_ rfl rfl ?_ ?_
 ·simp only [List.map_cons,Xb,ho,VB,aa.aV,aS _ _ (eW 0 _)]
 ·intro j ob hj
  match j,hj with
  | 0,hj=>cases hj;exact eW _ _
  | j+1,hj=>simp at hj
 ·simp only [dW,AV.aV,VB,aa.aV,aS _ _ (eW 0 _)];have hl:id<o.length:=(List.getElem?_eq_some_iff.1 ho).1;rw [Xb,List.append_nil];exact h
theorem uO (E:List a8) {i:Nat} (h:i<E.length):px (E.take (i+1))=fm (fm (px (E.take i)) (E[i].aD,E[i].aD) E[i].time) (E[i].to,E[i].to) E[i].time:=by
 rw [px,px,Xe h,sI,List.flatMap_append,lN];rfl
theorem xp {K:Type} [DecidableEq K]: ∀(l:List (K×Int)) (k:K) (t:Int),(gx l k t).length<=l.length+1
 | [],k,t=>by simp [gx]
 | p :: l,k,t=>by
  rw [gx]
  split
  ·simp
  ·have:=xp l k t;simp only [U9];omega
theorem qR {K:Type} [DecidableEq K] (l:List (K×Int)) (k:K) (t:Int):(fm l k t).length<=l.length+1:=by
 rw [fm];split
 ·exact xp l k t
 ·omega
theorem nZ (E:List a8): ∀i,i<=E.length->(px (E.take i)).length<=2 * i
 | 0,_=>by simp [px,sI,fe]
 | i+1,h=>by
  rw [uO E (by omega)];have h1:=nZ E i (by omega);have h2:=qR (px (E.take i)) (E[i].aD,E[i].aD) E[i].time;have h3:=qR (fm (px (E.take i)) (E[i].aD,E[i].aD) E[i].time) (E[i].to,E[i].to) E[i].time;omega
theorem KJ (E:List a8) (hl:E.length<=1000):ah Tryz.prog 16 [.aH 5 (E.map aU) E.length] (.aH 3 ((bl E).map bV) (bl E).length):=by
 have eW: ∀n l,bZ n (bB aX l)=true:=fun n l=>fD (fun _=>rfl) l
 have eN:(E.map aU).length=E.length:=by simp
 have hV:=nZ E E.length (Nat.le_refl _);rw [List.take_length] at hV;have PR:=Cr (px E) (il _ [] List.nodup_nil).1 (by omega)
 (refine ah.enter Tryz.func16 rfl (by kernel_rfl) (by kernel_rfl) rfl (by first|rfl|(simp only [go_sem,WT,Wg,Wn])) (by first|rfl|(simp only [go_sem,WT,Wg,Wn])) ?_;simp only [Tryz.ntmps16,Tryz.results16,U9,List.length_nil,Nat.reduceAdd,Nat.reduceSub,WW,WX,WY,WZ])
 repeat (first|(with_reducible first|refine ag.up ?_|refine fun (K:AK) hK=> ?_|(refine hK _ ?_;clear hK K))|simp only [go_sem]|with_reducible refine wA ?_|clear hK K)
 refine bI (ι:=Nat) 9 (fun i=>[(5, .undef),(9, .v (.int .i64 i))]) (fun i=>[some ⟨70,0,false,bB aX (px (E.take i))⟩]) (fun i=>E.length - i) (fun i=>i<=E.length) 0 (Nat.zero_le _) ?_ ?_
 ·(refine aq ?_ ?_ ?_<;>simp only [aD,WJ,WK,WW,WX,aW,aY,AV.v.injEq,Value.int.injEq,Value.bool.injEq,Value.string.injEq,AV.vec.injEq,AV.ptr.injEq,true_or,or_true,false_or,or_false,aa.mk.injEq,forall_eq_apply_imp_iff,forall_eq,forall_eq',go_sem])
  all_goals first|rfl|exact ⟨rfl,rfl⟩
 ·rintro i hi K hK
  rcases Nat.lt_or_ge i E.length with h|h
  ·have d1:decide ((i:Int)<(E.length:Int))=true:=decide_eq_true (by omega);have e1:=nC h;have ws:=aB (k:=i) (by omega);have hS:=uO E h;generalize E[i]=e at *
   repeat (first|(with_reducible first|refine ag.up ?_|refine fun (K:AK) hK=> ?_|(refine hK _ ?_;clear hK K))|simp only [go_sem,d1,e1,eN]|with_reducible refine wA ?_|clear hK K)
   refine ab.KU (k:=(e.aD,e.aD)) rfl ?_
   repeat (first|(with_reducible first|refine ag.up ?_|refine fun (K:AK) hK=> ?_|(refine hK _ ?_;clear hK K))|simp only [go_sem]|with_reducible refine wA ?_|clear hK K)
   refine ab.KU (k:=(e.to,e.to)) rfl ?_
   repeat (first|(with_reducible first|refine ag.up ?_|refine fun (K:AK) hK=> ?_|(refine hK _ ?_;clear hK K))|simp only [go_sem,ws]|with_reducible refine wA ?_|clear hK K)
   refine aJ.mk (i+1) h (by omega) ?_;rw [hS]
   (refine aq ?_ ?_ ?_<;>simp only [aD,WJ,WK,WW,WX,aW,aY,AV.v.injEq,Value.int.injEq,Value.bool.injEq,Value.string.injEq,AV.vec.injEq,AV.ptr.injEq,true_or,or_true,false_or,or_false,aa.mk.injEq,forall_eq_apply_imp_iff,forall_eq,forall_eq',go_sem])
   all_goals first|exact eW _ _|exact dJ _ _|trace_state
  ·have e0:i=E.length:=by omega
   have d1:decide ((E.length:Int)<(E.length:Int))=false:=decide_eq_false (by omega);have e2:E.take E.length=E:=List.take_length;simp only [e0,e2]
   repeat ((fail_if_success (with_reducible refine bL (i:=8) ?_));first|(with_reducible first|refine ag.up ?_|refine fun (K:AK) hK=> ?_|(refine hK _ ?_;clear hK K))|simp only [go_sem,d1]|with_reducible refine wA ?_|clear hK K)
   refine bU (sG 3 0 rfl rfl rfl rfl) (by kernel_rfl) ?_;simp only [List.set_cons_zero,List.set_cons_succ]
   repeat (first|(with_reducible first|refine ag.up ?_|refine fun (K:AK) hK=> ?_|(refine hK _ ?_;clear hK K))|simp only [go_sem]|with_reducible refine wA ?_|clear hK K)
   refine ab.one PR ?_
   repeat (first|(with_reducible first|refine ag.up ?_|refine fun (K:AK) hK=> ?_|(refine hK _ ?_;clear hK K))|simp only [go_sem]|with_reducible refine wA ?_|clear hK K)
   refine jb.of 40 rfl ?_;simp only [go_sem,fB]
   all_goals trace_state
section
mutual
def qX:Ex->Nat->Nat
 | .mk _ _ l,deep=>if 60<deep then 61 else qL l (deep+1) 1
def qL:List Ex->Nat->Nat->Nat
 | [],_,n=>n
 | x :: xs,d,n=>if n<=60 then qL xs d (n+qX x d) else n
end
theorem Cu: ∀(l:List Ex) (d n k:Nat) (h:k<l.length),qL (l.take k) d n<=60->qL (l.take (k+1)) d n=qL (l.take k) d n+qX l[k] d
 | [],_,_,_,h,_=>by simp at h
 | x :: xs,d,n,0,_,hn=>by
  simp only [List.take_zero,qL] at hn ⊢;simp [qL,hn]
 | x :: xs,d,n,k+1,h,hn=>by
  simp only [List.take_succ_cons,qL,List.getElem_cons_succ] at hn ⊢
  by_cases hc:n<=60
  ·rw [if_pos hc] at hn ⊢;rw [if_pos hc];exact Cu xs d _ k (by simpa using h) hn
  ·rw [if_neg hc] at hn;omega
theorem Ct: ∀(l:List Ex) (d n k:Nat),60<qL (l.take k) d n->qL l d n=qL (l.take k) d n
 | [],_,_,_,_=>by simp
 | x :: xs,d,n,0,hn=>by
  simp only [List.take_zero,qL] at hn ⊢;rw [if_neg (by omega)]
 | x :: xs,d,n,k+1,hn=>by
  simp only [List.take_succ_cons,qL] at hn ⊢
  by_cases hc:n<=60
  ·rw [if_pos hc] at hn ⊢;rw [if_pos hc];exact Ct xs d _ k hn
  ·rw [if_neg hc,if_neg hc]
mutual
theorem H4: ∀(x:Ex) (d:Nat),d<=61->1<=qX x d∧qX x d<=61+60 * (61 - d)
 | .mk _ _ l,d,h=>by
  rw [qX]
  split
  ·omega
  ·have:=A7 l (d+1) 1 (by omega);omega
theorem A7: ∀(l:List Ex) (d n:Nat),d<=61->n<=qL l d n∧qL l d n<=max n (121+60 * (61 - d))
 | [],d,n,h=>by rw [qL];omega
 | x :: xs,d,n,h=>by
  rw [qL]
  split
  ·have h1:=H4 x d h;have h2:=A7 xs d (n+qX x d) h;omega
  ·omega
end
theorem DZ (x:Ex): ∀d:Nat,d<=61->ah Tryz.prog 26 [.agg (bC x), .v (.int .i64 d)] (.v (.int .i64 (qX x d:Nat))):=by
 induction x using Ex.ind with
 | h k s l ih=>
  intro d hd61;simp only [aN,qX,Ex.kind,Ex.label,Ex.kids]
  by_cases hdd:60<d
  ·rw [if_pos hdd];have hd0:decide (60<(d:Int))=true:=decide_eq_true (by omega)
   (refine ah.enter Tryz.func26 rfl (by kernel_rfl) (by kernel_rfl) rfl (by first|rfl|(simp only [go_sem,WT,Wg,Wn])) (by first|rfl|(simp only [go_sem,WT,Wg,Wn])) ?_;simp only [Tryz.ntmps26,Tryz.results26,U9,U3,Nat.reduceAdd,Nat.reduceSub,WW,WX,WY,WZ])
   repeat (first|(with_reducible first|refine ag.up ?_|refine fun (K:AK) hK=> ?_|(refine hK _ ?_;clear hK K))|simp only [go_sem,hd0]|with_reducible refine wA ?_|clear hK K)
   rfl
  ·rw [if_neg hdd];have hd0:decide (60<(d:Int))=false:=decide_eq_false (by omega);have eD:=aB (k:=d) (by omega)
   (refine ah.enter Tryz.func26 rfl (by kernel_rfl) (by kernel_rfl) rfl (by first|rfl|(simp only [go_sem,WT,Wg,Wn])) (by first|rfl|(simp only [go_sem,WT,Wg,Wn])) ?_;simp only [Tryz.ntmps26,Tryz.results26,U9,U3,Nat.reduceAdd,Nat.reduceSub,WW,WX,WY,WZ])
   repeat (first|(with_reducible first|refine ag.up ?_|refine fun (K:AK) hK=> ?_|(refine hK _ ?_;clear hK K))|simp only [go_sem,hd0]|with_reducible refine wA ?_|clear hK K)
   refine bD (ι:=Nat) 9 (fun i=>[(5, .v (.int .i64 (qL (l.take i) (d+1) 1:Nat))),(6, .v (.int .i64 i))]) (fun i=>l.length - i) (fun i=>i<=l.length∧i+1<=qL (l.take i) (d+1) 1) 0 ⟨Va _,Nat.le_refl _⟩ ?_ ?_
   ·(refine aq ?_ ?_ ?_<;>simp only [aD,WJ,WK,WW,WX,aW,aY,AV.v.injEq,Value.int.injEq,Value.bool.injEq,Value.string.injEq,AV.vec.injEq,AV.ptr.injEq,true_or,or_true,false_or,or_false,aa.mk.injEq,forall_eq_apply_imp_iff,forall_eq,forall_eq',go_sem])
    exact ⟨rfl,rfl⟩
   rintro i ⟨hi,hin⟩ K hK;have hr:=A7 (l.take i) (d+1) 1 (by omega)
   repeat (first|(with_reducible first|refine ag.up ?_|refine fun (K:AK) hK=> ?_|(refine hK _ ?_;clear hK K))|simp only [go_sem]|with_reducible refine wA ?_|clear hK K)
   refine eJ.part (fun h=> ?_) (fun h=> ?_)
   ·have hlt:i<l.length:=by (try simp only [bne_iff_ne,ne_eq,bne_eq_false_iff_eq,beq_iff_eq,beq_eq_false_iff_ne,decide_eq_true_eq,decide_eq_false_iff_not,W5,Int.natCast_inj,Int.ofNat_lt,Int.ofNat_le] at h);omega
    by_cases hb2:qL (l.take i) (d+1) 1<=60
    ·have eW:=aB (k:=i) (by omega);have eG:=getD_map bC l i [] hlt;have HX:=ih l[i] (List.getElem_mem hlt) (d+1) (by omega);have eT:=Cu l (d+1) 1 i hlt hb2;have hr2:=H4 l[i] (d+1) (by omega);have hd:decide (((qL (l.take i) (d+1) 1:Nat):Int)<=60)=true:=decide_eq_true (by omega)
     have eS:IntKind.i64.wrap (((qL (l.take i) (d+1) 1:Nat):Int)+((qX l[i] (d+1):Nat):Int))=((qL (l.take (i+1)) (d+1) 1:Nat):Int):=by rw [cF (by omega) (by omega),eT];omega
     simp only [aN] at HX eG
     repeat (first|(with_reducible first|refine ag.up ?_|refine fun (K:AK) hK=> ?_|(refine hK _ ?_;clear hK K))|simp only [go_sem,hd,h,eG,aN,eD]|with_reducible refine wA ?_|clear hK K)
     refine ab.one HX ?_
     repeat (first|(with_reducible first|refine ag.up ?_|refine fun (K:AK) hK=> ?_|(refine hK _ ?_;clear hK K))|simp only [go_sem,eS,eW]|with_reducible refine wA ?_|clear hK K)
     exact aJ.mk (i+1) ⟨by omega,by omega⟩ (by omega) (by (refine aq ?_ ?_ ?_<;>simp only [aD,WJ,WK,WW,WX,aW,aY,AV.v.injEq,Value.int.injEq,Value.bool.injEq,Value.string.injEq,AV.vec.injEq,AV.ptr.injEq,true_or,or_true,false_or,or_false,aa.mk.injEq,forall_eq_apply_imp_iff,forall_eq,forall_eq',go_sem]))
    ·have eT:=Ct l (d+1) 1 i (by omega);have hd:decide (((qL (l.take i) (d+1) 1:Nat):Int)<=60)=false:=decide_eq_false (by omega)
     repeat (first|(with_reducible first|refine ag.up ?_|refine fun (K:AK) hK=> ?_|(refine hK _ ?_;clear hK K))|simp only [go_sem,hd,h]|with_reducible refine wA ?_|clear hK K)
     rw [eT]
   ·have e1:l.take i=l:=by rw [show i=l.length by (try simp only [bne_iff_ne,ne_eq,bne_eq_false_iff_eq,beq_iff_eq,beq_eq_false_iff_ne,decide_eq_true_eq,decide_eq_false_iff_not,W5,Int.natCast_inj,Int.ofNat_lt,Int.ofNat_le] at h);omega,List.take_length]
    repeat (first|(with_reducible first|refine ag.up ?_|refine fun (K:AK) hK=> ?_|(refine hK _ ?_;clear hK K))|simp only [go_sem,e1,h]|with_reducible refine wA ?_|clear hK K)
def GH (E:List a8):Bool:=(E.take 30).any (fun e=>decide (30<e.props.length))
def Eb (x:Ex) (E:List a8):Bool:=GH E||(decide (60<qX x 0)||decide (30<E.length))
theorem Kc {x:Ex} {E:List a8} (h:Eb x E=false):E.length<=30∧ ∀e∈E,e.props.length<=30:=by
 simp only [Eb,Bool.or_eq_false_iff,decide_eq_false_iff_not] at h;obtain ⟨h1, -,h3⟩:=h;refine ⟨by omega,fun e he=> ?_⟩;rw [GH,W4 (by omega)] at h1
 have:=List.any_eq_false.1 h1 e he
 simpa using this
theorem Ec (x:Ex) (E:List a8) (hl:E.length<=140737488355328):ah Tryz.prog 8 [.agg (bC x), .aH 5 (E.map aU) E.length] (.v (.bool (Eb x E))):=by
 have SZ:=DZ x 0 (by omega);rw [Eb];simp only [aN] at SZ ⊢
 (refine ah.enter Tryz.func8 rfl (by kernel_rfl) (by kernel_rfl) rfl (by first|rfl|(simp only [go_sem,WT,Wg,Wn])) (by first|rfl|(simp only [go_sem,WT,Wg,Wn])) ?_;simp only [Tryz.ntmps8,Tryz.results8,U9,U3,Nat.reduceAdd,Nat.reduceSub,WW,WX,WY,WZ])
 repeat (first|(with_reducible first|refine ag.up ?_|refine fun (K:AK) hK=> ?_|(refine hK _ ?_;clear hK K))|simp only [go_sem]|with_reducible refine wA ?_|clear hK K)
 refine bD (ι:=Nat) 5 (fun i=>[(5, .v (.int .i64 i))]) (fun i=>30 - i) (fun i=>i<=E.length∧i<=30∧GH (E.take i)=false) 0 ⟨Va _,Va _,rfl⟩ ?_ ?_
 ·(refine aq ?_ ?_ ?_<;>simp only [aD,WJ,WK,WW,WX,aW,aY,AV.v.injEq,Value.int.injEq,Value.bool.injEq,Value.string.injEq,AV.vec.injEq,AV.ptr.injEq,true_or,or_true,false_or,or_false,aa.mk.injEq,forall_eq_apply_imp_iff,forall_eq,forall_eq',go_sem])
  all_goals first|rfl|trace_state
 ·rintro i ⟨hi,h30,hg⟩ K hK
  by_cases h:i<E.length∧i<30
  ·obtain ⟨h1,h2⟩:=h;have d1:decide ((i:Int)<(E.length:Int))=true:=decide_eq_true (by omega);have d2:decide ((i:Int)<30)=true:=decide_eq_true (by omega);have e1:=getD_map aU E i [] h1;simp only [aU] at e1;have ws:=aB (k:=i) (by omega)
   have hs:GH (E.take (i+1))=(GH (E.take i)||decide (30<E[i].props.length)):=by
    have t1:(E.take (i+1)).take 30=E.take (i+1):=W4 (by rw [List.length_take];omega);have t2:(E.take i).take 30=E.take i:=W4 (by rw [List.length_take];omega);rw [GH,GH,t1,t2,List.take_succ_eq_append_getElem h1,List.any_append];simp
   by_cases hb:30<E[i].props.length
   ·have d3:decide (30<(E[i].props.length:Int))=true:=decide_eq_true (by omega)
    have hall:GH E=true:=by
     rw [GH,List.any_eq_true];exact ⟨E[i],by rw [List.mem_take_iff_getElem];exact ⟨i,by omega,rfl⟩,decide_eq_true hb⟩
    rw [hall,X9]
    repeat (first|(with_reducible first|refine ag.up ?_|refine fun (K:AK) hK=> ?_|(refine hK _ ?_;clear hK K))|simp only [go_sem,d1,d2,e1,d3]|with_reducible refine wA ?_|clear hK K)
   ·have d3:decide (30<(E[i].props.length:Int))=false:=decide_eq_false (by omega)
    repeat (first|(with_reducible first|refine ag.up ?_|refine fun (K:AK) hK=> ?_|(refine hK _ ?_;clear hK K))|simp only [go_sem,d1,d2,e1,d3,ws]|with_reducible refine wA ?_|clear hK K)
    exact aJ.mk (i+1) ⟨h1,h2,by rw [hs,hg,decide_eq_false hb];rfl⟩ (by omega) (by (refine aq ?_ ?_ ?_<;>simp only [aD,WJ,WK,WW,WX,aW,aY,AV.v.injEq,Value.int.injEq,Value.bool.injEq,Value.string.injEq,AV.vec.injEq,AV.ptr.injEq,true_or,or_true,false_or,or_false,aa.mk.injEq,forall_eq_apply_imp_iff,forall_eq,forall_eq',go_sem]))
  ·have hgE:GH E=false:=by
    have:E.take 30=(E.take i).take 30:=by
     rw [List.take_take]
     rcases U6 i 30 with q|q
     ·rw [W4 (show E.length<=30 by omega),W4 (by omega)]
     ·rw [show min 30 i=30 by omega]
    rw [GH,this];exact hg
   by_cases h1:i<E.length
   ·have d1:decide ((i:Int)<(E.length:Int))=true:=decide_eq_true (by omega);have d2:decide ((i:Int)<30)=false:=decide_eq_false (by omega)
    repeat (first|(with_reducible first|refine ag.up ?_|refine fun (K:AK) hK=> ?_|(refine hK _ ?_;clear hK K))|simp only [go_sem,d1,d2]|with_reducible refine wA ?_|clear hK K)
    refine ab.one SZ ?_
    by_cases hq:60<qX x 0
    ·have q1:decide (60<((qX x 0:Nat):Int))=true:=decide_eq_true (by omega)
     repeat (first|(with_reducible first|refine ag.up ?_|refine fun (K:AK) hK=> ?_|(refine hK _ ?_;clear hK K))|simp only [go_sem,q1]|with_reducible refine wA ?_|clear hK K)
     rw [decide_eq_true hq,X9,Bool.or_true]
    ·have q1:decide (60<((qX x 0:Nat):Int))=false:=decide_eq_false (by omega)
     have q2:decide (30<(E.length:Int))=decide (30<E.length):=by rw [decide_eq_decide];omega
     repeat (first|(with_reducible first|refine ag.up ?_|refine fun (K:AK) hK=> ?_|(refine hK _ ?_;clear hK K))|simp only [go_sem,q1,q2]|with_reducible refine wA ?_|clear hK K)
     rw [decide_eq_false hq,Ya,hgE,Ya]
   ·have d1:decide ((i:Int)<(E.length:Int))=false:=decide_eq_false (by omega)
    repeat (first|(with_reducible first|refine ag.up ?_|refine fun (K:AK) hK=> ?_|(refine hK _ ?_;clear hK K))|simp only [go_sem,d1]|with_reducible refine wA ?_|clear hK K)
    refine ab.one SZ ?_
    by_cases hq:60<qX x 0
    ·have q1:decide (60<((qX x 0:Nat):Int))=true:=decide_eq_true (by omega)
     repeat (first|(with_reducible first|refine ag.up ?_|refine fun (K:AK) hK=> ?_|(refine hK _ ?_;clear hK K))|simp only [go_sem,q1]|with_reducible refine wA ?_|clear hK K)
     rw [decide_eq_true hq,X9,Bool.or_true]
    ·have q1:decide (60<((qX x 0:Nat):Int))=false:=decide_eq_false (by omega)
     have q2:decide (30<(E.length:Int))=decide (30<E.length):=by rw [decide_eq_decide];omega
     repeat (first|(with_reducible first|refine ag.up ?_|refine fun (K:AK) hK=> ?_|(refine hK _ ?_;clear hK K))|simp only [go_sem,q1,q2]|with_reducible refine wA ?_|clear hK K)
     rw [decide_eq_false hq,Ya,hgE,Ya]
theorem y5 (L:PL) (f t:ByteArray) (hl:L.length<=1000000):ah Tryz.prog 25 [.aH 3 (L.map bV) L.length, .v (.string f), .v (.string t)] (.v (.int .i64 (iy L f t))):=by
 have eN:(L.map bV).length=L.length:=by simp
 (refine ah.enter Tryz.func25 rfl (by kernel_rfl) (by kernel_rfl) rfl (by first|rfl|(simp only [go_sem,WT,Wg,Wn])) (by first|rfl|(simp only [go_sem,WT,Wg,Wn])) ?_;simp only [Tryz.ntmps25,Tryz.results25,U9,U3,Nat.reduceAdd,Nat.reduceSub,WW,WX,WY,WZ])
 repeat (first|(with_reducible first|refine ag.up ?_|refine fun (K:AK) hK=> ?_|(refine hK _ ?_;clear hK K))|simp only [go_sem]|with_reducible refine wA ?_|clear hK K)
 refine bD (ι:=Nat) 7 (fun i=>[(7, .v (.int .i64 i))]) (fun i=>L.length - i) (fun i=>i<=L.length∧iy (L.drop i) f t=iy L f t) 0 ⟨Va _,rfl⟩ ?_ ?_
 ·(refine aq ?_ ?_ ?_<;>simp only [aD,WJ,WK,WW,WX,aW,aY,AV.v.injEq,Value.int.injEq,Value.bool.injEq,Value.string.injEq,AV.vec.injEq,AV.ptr.injEq,true_or,or_true,false_or,or_false,aa.mk.injEq,forall_eq_apply_imp_iff,forall_eq,forall_eq',go_sem])
  all_goals first|rfl|exact fB _ _|trace_state
 ·rintro i ⟨hi,hg⟩ K hK
  rcases U6 i L.length with h|h
  ·have d1:decide ((i:Int)<(L.length:Int))=true:=decide_eq_true (by omega);have e1:=getD_map bV L i [] h;simp only [bV] at e1;have ws:=aB (k:=i) (by omega);rw [List.drop_eq_getElem_cons h,iy] at hg
   by_cases h1:L[i].1.1=f
   ·have q1:(L[i].1.1.toList==f.toList)=true:=by rw [jw];exact decide_eq_true h1
    by_cases h2:L[i].1.2=t
    ·have q2:(L[i].1.2.toList==t.toList)=true:=by rw [jw];exact decide_eq_true h2
     rw [if_pos ⟨h1,h2⟩] at hg
     repeat (first|(with_reducible first|refine ag.up ?_|refine fun (K:AK) hK=> ?_|(refine hK _ ?_;clear hK K))|simp only [go_sem,d1,e1,eN,q1,q2]|with_reducible refine wA ?_|clear hK K)
     rw [hg]
    ·have q2:(L[i].1.2.toList==t.toList)=false:=by rw [jw];exact decide_eq_false h2
     rw [if_neg (fun k=>h2 k.2)] at hg
     repeat (first|(with_reducible first|refine ag.up ?_|refine fun (K:AK) hK=> ?_|(refine hK _ ?_;clear hK K))|simp only [go_sem,d1,e1,eN,q1,q2,ws]|with_reducible refine wA ?_|clear hK K)
     exact aJ.mk (i+1) ⟨h,hg⟩ (by omega) (by (refine aq ?_ ?_ ?_<;>simp only [aD,WJ,WK,WW,WX,aW,aY,AV.v.injEq,Value.int.injEq,Value.bool.injEq,Value.string.injEq,AV.vec.injEq,AV.ptr.injEq,true_or,or_true,false_or,or_false,aa.mk.injEq,forall_eq_apply_imp_iff,forall_eq,forall_eq',go_sem]);all_goals exact fB _ _)
   ·have q1:(L[i].1.1.toList==f.toList)=false:=by rw [jw];exact decide_eq_false h1
    rw [if_neg (fun k=>h1 k.1)] at hg
    repeat (first|(with_reducible first|refine ag.up ?_|refine fun (K:AK) hK=> ?_|(refine hK _ ?_;clear hK K))|simp only [go_sem,d1,e1,eN,q1,ws]|with_reducible refine wA ?_|clear hK K)
    exact aJ.mk (i+1) ⟨h,hg⟩ (by omega) (by (refine aq ?_ ?_ ?_<;>simp only [aD,WJ,WK,WW,WX,aW,aY,AV.v.injEq,Value.int.injEq,Value.bool.injEq,Value.string.injEq,AV.vec.injEq,AV.ptr.injEq,true_or,or_true,false_or,or_false,aa.mk.injEq,forall_eq_apply_imp_iff,forall_eq,forall_eq',go_sem]);all_goals exact fB _ _)
  ·have d1:decide ((i:Int)<(L.length:Int))=false:=decide_eq_false (by omega);rw [List.drop_eq_nil_of_le h,iy] at hg
   repeat (first|(with_reducible first|refine ag.up ?_|refine fun (K:AK) hK=> ?_|(refine hK _ ?_;clear hK K))|simp only [go_sem,d1]|with_reducible refine wA ?_|clear hK K)
   rw [<-hg]
theorem Im (L:PL) (hl:L.length<=1000000):ah Tryz.prog 15 [.aH 3 (L.map bV) L.length, .aH 3 (L.map bV) L.length] (.v (.bool true)):=by
 have eN:(L.map bV).length=L.length:=by simp
 (refine ah.enter Tryz.func15 rfl (by kernel_rfl) (by kernel_rfl) rfl (by first|rfl|(simp only [go_sem,WT,Wg,Wn])) (by first|rfl|(simp only [go_sem,WT,Wg,Wn])) ?_;simp only [Tryz.ntmps15,Tryz.results15,U9,U3,Nat.reduceAdd,Nat.reduceSub,WW,WX,WY,WZ])
 repeat (first|(with_reducible first|refine ag.up ?_|refine fun (K:AK) hK=> ?_|refine wD ?_|(refine hK _ ?_;clear hK K))|simp only [go_sem]|with_reducible refine wA ?_|clear hK K)
 refine bD (ι:=Nat) 5 (fun i=>[(5, .v (.int .i64 i))]) (fun i=>L.length - i) (fun i=>i<=L.length) 0 (Va _) ?_ ?_
 ·(refine aq ?_ ?_ ?_<;>simp only [aD,WJ,WK,WW,WX,aW,aY,AV.v.injEq,Value.int.injEq,Value.bool.injEq,Value.string.injEq,AV.vec.injEq,AV.ptr.injEq,true_or,or_true,false_or,or_false,aa.mk.injEq,forall_eq_apply_imp_iff,forall_eq,forall_eq',go_sem])
  all_goals first|rfl|exact fB _ _|trace_state
 ·rintro i hi K hK
  rcases U6 i L.length with h|h
  ·have d1:decide ((i:Int)<(L.length:Int))=true:=decide_eq_true (by omega);have e1:=getD_map bV L i [] h;simp only [bV] at e1;have ws:=aB (k:=i) (by omega);generalize L[i]=p at *
   repeat (first|(with_reducible first|refine ag.up ?_|refine fun (K:AK) hK=> ?_|refine wD ?_|(refine hK _ ?_;clear hK K))|simp only [go_sem,d1,e1,eN,beq_self_eq_true,bne_self_eq_false,Bool.not_true,ws]|with_reducible refine wA ?_|clear hK K)
   exact aJ.mk (i+1) h (by omega) (by (refine aq ?_ ?_ ?_<;>simp only [aD,WJ,WK,WW,WX,aW,aY,AV.v.injEq,Value.int.injEq,Value.bool.injEq,Value.string.injEq,AV.vec.injEq,AV.ptr.injEq,true_or,or_true,false_or,or_false,aa.mk.injEq,forall_eq_apply_imp_iff,forall_eq,forall_eq',go_sem]);all_goals exact fB _ _)
  ·have d1:decide ((i:Int)<(L.length:Int))=false:=decide_eq_false (by omega)
   repeat (first|(with_reducible first|refine ag.up ?_|refine fun (K:AK) hK=> ?_|refine wD ?_|(refine hK _ ?_;clear hK K))|simp only [go_sem,d1,beq_self_eq_true]|with_reducible refine wA ?_|clear hK K)
theorem MR (k:Int) (rows:List (List AV)) (n:Nat) (hw:bZ 0 rows=true):ah Tryz.prog 22 [.v (.int .i64 k), .aH 3 rows n] (.agg [.v (.int .i64 k), .v (.string ⟨#[]⟩), .aH 3 rows n]):=by
 (refine ah.enter Tryz.func22 rfl (by kernel_rfl) (by kernel_rfl) rfl (by simp only [go_sem,bp,AV.wf,WT,Wg,Wn,hw]) (by simp only [go_sem,bp,AV.wf,dB,WT,Wg,Wn,hw]) ?_;simp only [Tryz.ntmps22,Tryz.results22,U9,U3,Nat.reduceAdd,Nat.reduceSub,WW,WX,WY,WZ])
 repeat' (first|(with_reducible first|refine ag.up ?_|refine fun (K:AK) hK=> ?_|(refine hK _ ?_;clear hK K))|simp only [go_sem]|clear hK K|(with_reducible refine ab.one (by assumption) ?_)|(with_reducible refine bf.one (by assumption) ?_)|(refine eJ.part (fun hb=> ?_) (fun hb=> ?_)<;>simp only [hb,go_sem])|(refine eJ.part (fun hb=> ?_) (fun hb=> ?_))|(with_reducible refine jc.mk ?_ ?_))
 refine jb.of 40 rfl ?_;simp only [go_sem,hw]
theorem Eo (s:ByteArray):ah Tryz.prog 21 [.v (.string s)] (.agg [.v (.int .i64 1), .v (.string s), .v (.slice none 0 0)]):=by
 (refine ah.enter Tryz.func21 rfl (by kernel_rfl) (by kernel_rfl) rfl (by first|rfl|(simp only [go_sem,WT,Wg,Wn])) (by first|rfl|(simp only [go_sem,WT,Wg,Wn])) ?_;simp only [Tryz.ntmps21,Tryz.results21,U9,U3,Nat.reduceAdd,Nat.reduceSub,WW,WX,WY,WZ])
 repeat' (first|(with_reducible first|refine ag.up ?_|refine fun (K:AK) hK=> ?_|(refine hK _ ?_;clear hK K))|simp only [go_sem]|clear hK K|(with_reducible refine ab.one (by assumption) ?_)|(with_reducible refine bf.one (by assumption) ?_)|(refine eJ.part (fun hb=> ?_) (fun hb=> ?_)<;>simp only [hb,go_sem])|(refine eJ.part (fun hb=> ?_) (fun hb=> ?_))|(with_reducible refine jc.mk ?_ ?_))
 (refine jb.of 40 rfl ?_;simp only [go_sem])
theorem yS (a b l:ByteArray) (t:Int):ah Tryz.prog 20 [.v (.string a), .v (.string b), .v (.string l), .v (.int .i64 t)] (.agg [.v (.string a), .v (.string b), .v (.string l), .v (.int .i64 t), .v (.slice none 0 0)]):=by
 (refine ah.enter Tryz.func20 rfl (by kernel_rfl) (by kernel_rfl) rfl (by first|rfl|(simp only [go_sem,WT,Wg,Wn])) (by first|rfl|(simp only [go_sem,WT,Wg,Wn])) ?_;simp only [Tryz.ntmps20,Tryz.results20,U9,U3,Nat.reduceAdd,Nat.reduceSub,WW,WX,WY,WZ])
 repeat' (first|(with_reducible first|refine ag.up ?_|refine fun (K:AK) hK=> ?_|(refine hK _ ?_;clear hK K))|simp only [go_sem]|clear hK K|(with_reducible refine ab.one (by assumption) ?_)|(with_reducible refine bf.one (by assumption) ?_)|(refine eJ.part (fun hb=> ?_) (fun hb=> ?_)<;>simp only [hb,go_sem])|(refine eJ.part (fun hb=> ?_) (fun hb=> ?_))|(with_reducible refine jc.mk ?_ ?_))
 (refine jb.of 40 rfl ?_;simp only [go_sem])
section
variable {P:Program}
def zB (l:List Oper) (d:Nat->Bool):Prop:= ∀j i,i<l.length->d j=true->aG l.toArray j i=true->d i=true
def jS (d:Nat->Bool) (k:Nat):Nat->Bool:=fun j=>if j=k then true else d j
def MQ (P:Program) (l:List Oper) (val:Nat->Value) (W:(Nat->Bool)->World) (Q:Act->World->Prop):List Oper->Nat->((Nat->Value)->Act)->Prop
 | [],k,A=> ∀x d,(∀i,i<k->x i=val i∧d i=true)->Q (A x) (W d)
 | o :: rest,k,A=>(∀x d,zB l d->d k=false->(∀i,i<l.length->aG l.toArray k i=true->x i=val i∧d i=true)->Region.wanted o (yielded l.toArray (A x).tmps)=true ∧
   ((execOp (A x).eval o).run P (W d) = .ok (.value (val k)) (W (jS d k))∨((execOp (A x).eval o).run P (W d) = .ok .skip (W (jS d k))∧val k=Go.undef)))∧MQ P l val W Q rest (k+1) (fun x=>(A x).put o.dst (x k))
def xE (l:List Oper) (W:(Nat->Bool)->World):kD:=
 ⟨{ d:Nat->Bool // zB l d },fun g=>W g.1,fun g g'=> ∀j,g.1 j=true->g'.1 j=true,fun _ _ h=>h,fun _ _ _ h k j hj=>k j (h j hj),fun j g=>g.1 j=false⟩
def Iv (l:List Oper) (W:(Nat->Bool)->World) (val:Nat->Value) (i:Nat):fY (xE l W):=⟨fun v g=>v=val i∧g.1 i=true,fun v g g' hR h=>⟨h.1,hR i h.2⟩⟩
theorem RQ {l:List Oper} {W:(Nat->Bool)->World} {val:Nat->Value} {i:Nat} (h:i<l.length):vi ((List.range l.length).map (Iv l W val)) i=Iv l W val i:=by
 simp [vi,List.getD_eq_getElem?_getD,h]
theorem Hm {l:List Oper} {val:Nat->Value} {W:(Nat->Bool)->World} {Q:Act->World->Prop} (g0:(xE l W).G): ∀(rest:List Oper) (k:Nat) (A:(Nat->Value)->Act),l.drop k=rest->k<=l.length->MQ P l val W Q rest k A->Ey P l.toArray ((List.range l.length).map (Iv l W val)) g0 Q rest k A
 | [],k,A,hl,hk,h=>fun x g _ hs=>h x g.1 (fun i hi=>by
   have:=hs i hi
   rw [RQ (by omega)] at this
   exact this)
 | o :: rest,k,A,hl,hk,h=>by
  have hkl:k<l.length:=by have:=congrArg List.length hl;simp at this;omega
  refine ⟨fun x g _ hs hp=> ?_,Hm g0 rest (k+1) _ (by rw [<-List.drop_drop,hl];rfl) (by omega) h.2⟩
  have hd: ∀i,i<l.length->aG l.toArray k i=true->x i=val i∧g.1 i=true:=fun i hi hdep=>by
   have:=hs i hdep
   rw [RQ hi] at this;exact this
  obtain ⟨hw,hr⟩:=h.1 x g.1 g.2 hp hd
  have hins:zB l (jS g.1 k):=fun j i hi hj hdep=>by
   simp only [jS] at hj ⊢
   split
   ·rfl
   ·split at hj
    ·rename_i q;subst q;exact (hd i hi hdep).2
    ·exact g.2 j i hi hj hdep
  have hR:(xE l W).R g ⟨jS g.1 k,hins⟩:=fun j hj=>by
   simp only [jS];split
   ·rfl
   ·exact hj
  have hP: ∀i,i≠k->(xE l W).pre i g->(xE l W).pre i ⟨jS g.1 k,hins⟩:=fun i hi hh=>by
   show jS g.1 k i=false;simp only [jS,if_neg hi];exact hh
  have hS:jS g.1 k k=true:=by simp [jS]
  refine .inl ⟨hw, ?_⟩;rw [RQ hkl]
  rcases hr with hr|⟨hr,hv⟩
  ·have e:(execOp (A x).eval o).run P ((xE l W).wd g) = .ok (.value (val k)) (W (jS g.1 k)):=hr;rw [e];exact ⟨⟨jS g.1 k,hins⟩,rfl,hR,hP,rfl,hS⟩
  ·have e:(execOp (A x).eval o).run P ((xE l W).wd g) = .ok .skip (W (jS g.1 k)):=hr;rw [e];exact ⟨⟨jS g.1 k,hins⟩,rfl,hR,hP,hv.symm,hS⟩
theorem Jw {Q:Exit->Act->World->Prop} {a:Act} {w:World} {l:List Oper} (hB:nR l.toArray=true) (val:Nat->Value) (W:(Nat->Bool)->World) (hW:W (fun _=>false)=w.drew) (h:MQ P l val W (Q .normal) l 0 (fun _=>a)) :
  wpAny P .any l.toArray Q l.toArray.size (Array.replicate l.toArray.size false) a w.drew:=
 fL (N:=xE l W) _ hB ⟨fun _=>false,fun _ _ _ h=>by cases h⟩ hW (fun _=>rfl) (Hm _ l 0 _ rfl (Va _) h)
variable {D:Nat->Prop} {nu:Nat->Nat->Value} {o:List (Option aa)} {w:World}
theorem qF {ks:List FK} {k:List AV} {x:AV} (hw:ib ks k k=some true): ∀ {rows:List (List AV)},fZ ks k rows=some none->fZ ks k (rows++[[.agg k,x]])=some (some x)
 | [],_=>by rw [WZ,fZ,hw]
 | row :: l,h=>by
  unfold fZ at h
  split at h
  ·cases ‹row :: l=[]›
  ·rename_i k' y l' e1;cases e1;rw [WY,fZ]
   split at h
   ·cases h
   ·exact qF hw h
   ·cases h
  ·cases h
theorem qI {ks:List FK} {k:List AV} {x:AV}: ∀ {rows:List (List AV)},fZ ks k rows=some none->iE ks k x rows=some (rows++[[.agg k,x]])
 | [],_=>rfl
 | row :: l,h=>by
  unfold fZ at h
  split at h
  ·cases ‹row :: l=[]›
  ·rename_i k' y l' e1;cases e1;rw [iE]
   split at h
   ·cases h
   ·rw [qI h];rfl
   ·cases h
  ·cases h
theorem Iq {g:Nat} {es:Array MapEntry} {cl:Nat} (hb:w.heap[g]? = some (.map es cl)):{ w with heap:=w.heap.setIfInBounds g (.map es cl) }=w:=by
 have:w.heap.setIfInBounds g (.map es cl)=w.heap:=by
  apply Array.ext_getElem?
  intro i;rw [Array.getElem?_setIfInBounds]
  split
  ·rename_i e;subst e;split
   ·exact hb.symm
   ·rename_i q;exact (Array.getElem?_eq_none (by omega)).symm
  ·rfl
 rw [this]
theorem zX {es:Array MapEntry} (h: ∀(i j:Nat) e e',es[i]? = some e->es[j]? = some e'->i<j->e.born<e'.born):(es.toList.map (·.born)).Nodup:=by
 rw [List.nodup_iff_pairwise_ne,List.pairwise_map,List.pairwise_iff_getElem];intro i j hi hj hij
 have:=h i j es.toList[i] es.toList[j] (by simp at hi;simp [hi]) (by simp at hj;simp [hj]) hij
 omega
theorem O0 {T kt et:TypeId} {ks:List FK} {id:Nat} {ob:aa} {k:List AV} {kx vx zx nx:Value} {rows':List (List AV)} {m:Value} (h:RO D nu o w) (hm:RA D nu o w (.vec id 0) m) (hk:RA D nu o w (.agg k) kx) (hu:P.underlying T=some (.map kt et)) (ht:iD P kt=some ks) (ho:o[id]? = some (some ob)) (hV:ob.du=false) (hz:ob.z=0) (hw:ib ks k k=some true)
  (hl:iX P et ks ob.rows k false=some (.v vx)) (hzx:pD P et=some (.v zx)) (hs:iE ks k (.v nx) ob.rows=some rows') :
  ∃(w1 w2:World) (st:Value),(Instr.lookup T m kx false).run P w = .ok vx w∧(Instr.mapEntry T m kx).run P w = .ok (.tuple #[vx,st]) w1∧(Instr.lookup T m kx false).run P w1 = .ok vx w1∧(Instr.entryStore T m st nx).run P w1 = .ok () w2 ∧
   bt nu o w nu (o.set id (some { ob with rows:=rows' })) w2∧RO D nu (o.set id (some { ob with rows:=rows' })) w2:=by
 have hmk:nf P T o (.vec id 0)=some (kt,et,id,ob):=by simp only [nf,hu,ho]
 obtain ⟨w',hrun,hmono,hro⟩:=gC h hm hk (.v nx) hmk ht hV hz hw hs;have hup:=fun x rows1 (hs1:iE ks k (.v x) ob.rows=some rows1)=>gC h hm hk (.v x) hmk ht hV hz hw hs1;obtain ⟨g,es,cl,_,_,rfl,hmp⟩:=mo h hm hmk hV hz
 have hsz:es.toList.length=ob.rows.length:=by simpa using hmp.sz
 have hck:=fun em=>Ad (P:=P) ht hk hw em;have hb:=hmp.blk;have hgl:=(Array.getElem?_eq_some_iff.1 hb).1;have hidl:=(List.getElem?_eq_some_iff.1 ho).1;obtain ⟨lv,hlr,hlx⟩:=mn hu ht hk hb hmp.sz hmp.key hmp.val hl;rw [hlx.b5] at hlr;have hnd:=zX hmp.iC;unfold iX at hl;rw [if_pos hw] at hl;have hkey: ∀(j:Nat) row c e,ob.rows[j]? = some row->row[0]? = some c->es.toList[j]? = some e->RA D nu o w c e.key:=fun j row c e q1 q2 q3=>hmp.key j row c e q1 q2 (by simpa using q3)
 rcases mq ht hk ob.rows es.toList 0 rows' hsz hkey hs with ⟨rfl,hf⟩|⟨j,e,rfl,hf,q5,q6,q7⟩
 ·have hq:fZ ks k ob.rows=some none:=by
   cases hq:fZ ks k ob.rows with
   | none=>rw [hq] at hl;cases hl
   | some q=>
    rcases ml ht hk ob.rows es.toList 0 q hsz hkey hq with ⟨rfl,_⟩|⟨j,c',e,row,rfl,hf',_⟩
    ·rfl
    ·rw [hf] at hf';cases hf'
  rw [hq] at hl;simp only [hzx,Option.some.injEq,if_false,Bool.false_eq_true,AV.v.injEq] at hl;subst hl;obtain ⟨zv,hzr,hzv⟩:=jG (D:=D) (nu:=nu) (o:=o) (w:=w) hzx;rw [hzv.b5] at hzr;obtain ⟨w1,hr1,hm1,hro1⟩:=hup zx _ (qI hq)
  have e1:w1={ w with heap:=w.heap.setIfInBounds g (.map (es.push ⟨kx,zx,cl⟩) (cl+1)) }:=by
   simp [Instr.mapUpdate,run_underlying hu,MapKept.run_getObj_map hb,hck,bH ht,hf,MapKept.run_setObj_map _ hb,Result.andThen] at hr1;exact hr1.symm
  have e2:w'={ w with heap:=w.heap.setIfInBounds g (.map (es.push ⟨kx,nx,cl⟩) (cl+1)) }:=by
   simp [Instr.mapUpdate,run_underlying hu,MapKept.run_getObj_map hb,hck,bH ht,hf,MapKept.run_setObj_map _ hb,Result.andThen] at hrun;exact hrun.symm
  have hb1:w1.heap[g]? = some (.map (es.push ⟨kx,zx,cl⟩) (cl+1)):=by rw [e1];exact (MapKept.heap_set (w:=w) (o':= .map (es.push ⟨kx,zx,cl⟩) (cl+1)) hb).1
  refine ⟨w1,w',goInt cl,hlr, ?_, ?_, ?_,hmono,hro⟩
  ·rw [e1];simp [Instr.mapEntry,run_underlying hu,MapKept.run_getObj_map hb,hck,bH ht,hf,hzr,MapKept.run_setObj_map _ hb,Result.andThen]
  ·have hl1:oG P T (o.set id (some { ob with rows:=ob.rows++[[.agg k, .v zx]] })) (.vec id 0) k false=some (ob.du=false∧ob.z=0, .v zx):=by
    simp only [oG,hu,ht,List.getElem?_set_self hidl,iX,if_pos hw,qF hw hq]
    rfl
   obtain ⟨v,h1,h2⟩:=pB hro1 (hm.mono hm1 (fun _ _ h=>h)) (hk.mono hm1 (fun _ _ h=>h)) hl1 ⟨hV,hz⟩;rw [h2.b5] at h1;exact h1
  ·have hidx:(es.push ⟨kx,zx,cl⟩).findIdx? (fun e=>((e.born:Nat):Int)==((cl:Nat):Int))=some es.size:=by
    rw [Yb];refine Yc (l:=(es.push ⟨kx,zx,cl⟩).toList) (j:=es.size) (e0:=⟨kx,zx,cl⟩) ?_ (by simp);simp only [Yd,List.map_append,List.map_cons,List.map_nil];refine List.nodup_append.2 ⟨hnd,by simp,fun a ha c hc e1=> ?_⟩;simp only [List.mem_singleton] at hc;obtain ⟨x,hx,rfl⟩:=List.mem_map.1 ha;obtain ⟨i,hi⟩:=List.getElem?_of_mem hx
    have:=hmp.born i x (by simpa using hi)
    omega
   have hmod:(es.push ⟨kx,zx,cl⟩).modify es.size (fun e=>{ e with val:=nx })=es.push ⟨kx,nx,cl⟩:=by
    apply Array.ext'
    rw [Ye,Yd,Yd, <- Array.length_toList,Go.WideElems.modify_last]
   rw [e2];simp [Instr.entryStore,MapKept.run_getObj_map hb1,asInt,asIntOf,goInt,hidx,hmod,MapKept.run_setObj_map _ hb1,Result.andThen];rw [e1];simp
 ·have hj:es[j]? = some e:=by simpa using q5
  rw [Nat.zero_add] at hf
  have hvx:vx=e.val:=by
   simp [Instr.lookup,run_underlying hu,MapKept.run_getObj_map hb,hck,bH ht,hf,Result.andThen] at hlr;exact hlr.symm
  have hsame:es.modify j (fun e=>{ e with key:=kx })=es:=by
   apply Array.ext'
   rw [Ye,Yf _ _ _ _ q5]
   have:({ e with key:=kx }:MapEntry)=e:=by rw [<-q6]
   rw [this];exact Go.WideElems.set_self _ _ _ q5
  have hmod:es.modify j (fun e=>{ e with val:=nx })=es.modify j (fun e'=>{ e' with key:=kx,val:=nx }):=by
   apply Array.ext'
   rw [Ye,Ye,Yf _ _ _ _ q5,Yf _ _ _ _ q5, <- q6]
  have hidx:es.findIdx? (fun e=>((e.born:Nat):Int)==((e.born:Nat):Int))=es.findIdx? (fun e=>((e.born:Nat):Int)==((e.born:Nat):Int)):=rfl
  have hidx:es.findIdx? (fun e'=>((e'.born:Nat):Int)==((e.born:Nat):Int))=some j:=by
   rw [Yb];exact Yc hnd q5
  have e2:w'={ w with heap:=w.heap.setIfInBounds g (.map (es.modify j (fun e'=>{ e' with key:=kx,val:=nx })) cl) }:=by
   simp [Instr.mapUpdate,run_underlying hu,MapKept.run_getObj_map hb,hck,bH ht,hf,hj,q6,q7,MapKept.run_setObj_map _ hb,Result.andThen] at hrun;exact hrun.symm
  refine ⟨w,w',goInt e.born,hlr, ?_,hlr, ?_,hmono,hro⟩
  ·simp [Instr.mapEntry,run_underlying hu,MapKept.run_getObj_map hb,hck,bH ht,hf,hj,q6,q7,hsame,MapKept.run_setObj_map _ hb,Result.andThen,hvx];exact Iq hb
  ·rw [e2];simp [Instr.entryStore,MapKept.run_getObj_map hb,asInt,asIntOf,goInt,hidx,hmod,MapKept.run_setObj_map _ hb,Result.andThen]
theorem fx {a:Act} {d:Tmp} {v:Value} (h:d<a.tmps.size):(a.put (some d) v).eval (.tmp d)=v:=by
 simp [Act.put,Act.eval,h]
theorem fw {a:Act} {d t:Tmp} {v:Value} (h:d≠t):(a.put (some d) v).eval (.tmp t)=a.eval (.tmp t):=Act.eval_put fun e he hx=>by cases he;cases hx;exact h rfl
theorem cm {a:Act} {dst:Option Tmp} {v:Value}:(a.put dst v).tmps.size=a.tmps.size:=by
 cases dst<;>simp [Act.put]
end
end
def dm (done:List (Nd×Int)):List (Nd×Int):=done.map (fun p=>(p.1,1))
theorem Gj (n:Nd): ∀done:List (Nd×Int),bJ (dm done) n=if n∈done.map Prod.fst then some 1 else none
 | []=>rfl
 | p :: l=>by
  rw [dm,WR,bJ]
  by_cases h:p.1=n
  ·rw [if_pos h,if_pos (by simp [h])]
  ·rw [if_neg h]
   have:=Gj n l
   rw [dm] at this;rw [this];have h': ¬n=p.1:=fun e=>h e.symm;simp only [WR,Wr,h',false_or]
theorem Gk {n:Nd} {τ:Int}: ∀ {done:List (Nd×Int)},n∉done.map Prod.fst->gx (dm done) n 1=dm (done++[(n,τ)])
 | [],_=>rfl
 | p :: l,h=>by
  rw [WR,Wr,not_or] at h;rw [dm,WR,gx,if_neg (Ne.symm h.1)]
  have:=Gk (τ:=τ) h.2
  rw [dm] at this;rw [this];rfl
def l8 (S:DS):Prop:= ∀x∈S.heap,0 <= -x.1∧ -x.1<=1099511627776
theorem KZ {st:Nat->ByteArray->Option Nat} {a:Nd} {time:Int} {S:DS} {e:a8} (h:l8 S) (ht:0<=time∧time<=1099511627776) (he:0<=e.time∧e.time<=1099511627776):l8 (qa st a time S e):=by
 unfold qa
 split
 ·exact h
 ·split
  ·intro x hx
   rcases List.mem_append.1 ((fR _ _).mem_iff.1 hx) with q|q
   ·exact h x q
   ·rw [List.mem_singleton] at q;subst q;simp only;omega
  ·exact h
theorem yT {st:Nat->ByteArray->Option Nat} {E:List a8} {a:Nd} {time:Int} {S:DS} (h:l8 S) (ht:0<=time∧time<=1099511627776) (hE: ∀e∈E,0<=e.time∧e.time<=1099511627776):l8 (kB st E a time S):=by
 have key: ∀(l:List a8) (S:DS),(∀e∈l,e∈E)->l8 S->l8 (l.foldl (qa st a time) S):=by
  intro l
  induction l with
  | nil=>exact fun S _ h=>h
  | cons e l ih=>exact fun S hl h=>ih _ (fun e he=>hl e (List.mem_cons_of_mem _ he)) (KZ h ht (hE e (hl e List.mem_cons_self)))
 exact key _ S (fun e he=>(gk.1 he).1) h
theorem IB {st:Nat->ByteArray->Option Nat} {E:List a8} {a:Nd} {time:Int} {S:DS}:(kB st E a time S).heap.length<=S.heap.length+(gO E a.1).length:=by
 have key: ∀(l:List a8) (S:DS),(l.foldl (qa st a time) S).heap.length<=S.heap.length+l.length:=by
  intro l
  induction l with
  | nil=>exact fun S=>Nat.le_refl _
  | cons e l ih=>
   intro S;have h1:=ih (qa st a time S e)
   have h2:(qa st a time S e).heap.length<=S.heap.length+1:=by
    unfold qa
    split
    ·omega
    ·split
     ·have:=(fR S.heap (-(min time e.time),(S.nodes.length:Int))).length_eq
      simp at this;simp only;omega
     ·omega
   simp only [WJ,U9];omega
 exact key _ S
theorem KO {S:DS} (h:l8 S) (hne:S.heap≠[]):l8 S.pop:=fun x hx=>h x ((fU hne).2 (.inr hx))
def DW (p:Nd×Int):List AV:=[.agg (bP p.1), .v (.int .i64 p.2)]
def wR (S:DS) (q:Nat):List (Option aa):=[some ⟨108,0,false,bB bP S.known⟩,some ⟨108,1,false,[[.vec 0 0]]⟩,some ⟨79,2,true,S.nodes.map bP⟩,some ⟨109,1,false,[[.vec 2 S.nodes.length]]⟩,
 some ⟨162,2,false,[[.vec (if S.heap=[] then 5 else q) S.pop.heap.length, .v (.bool true)]]⟩,(if S.heap=[] then some ⟨115,2,true,S.pop.heap.map aM⟩ else none),some ⟨110,1,false,[[.ptr 4 0 2 0 0]]⟩]
def IJ (S:DS):Option aa:=if S.heap=[] then none else some ⟨115,2,true,S.pop.heap.map aM⟩
def dz (done:List (Nd×Int)):Option aa:=some ⟨107,0,false,bB bP (dm done)⟩
theorem IW (S:DS): ∀ob,some ob∈ju S->bZ 7 ob.rows=true:=fun ob h=>by
 simp only [ju,Wr,Ve,Wt,or_false] at h
 rcases h with rfl|rfl|rfl|rfl|rfl|rfl|rfl
 ·exact cO _ _
 ·rfl
 ·exact gq _ _
 ·rfl
 ·rfl
 ·exact aA _ _
 ·rfl
theorem ab.cA {A:mW} {E:List a8} {G:List (ByteArray×List a8)} {a:Nd} {time:Int} {S:DS} {post:List (Option aa)} {K:AV->List (Option aa)->Prop} (hG: ∀v,(lY G v).getD []=gO E v) (hn:S.heap.length+E.length<=999999) (hnn:S.nodes.length+E.length<=999999) (ht:0<=time∧time<=1099511627776) (hE: ∀e∈E,0<=e.time∧e.time<=1099511627776)
  (k:K (.cy []) (ju (kB (iV A) E a time S)++post)):ab Tryz.prog 54 [.agg (bP a), .v (.int .i64 time), .vp [.vp (cd A), .mp (dT G)], .ptr 1 0 1 0 0, .ptr 6 0 1 0 0, .ptr 3 0 1 0 0] (ju S++post) K:=by
 have hol:=qp E a.1;refine ab.sub (CH A E G a time S (hG a.1) (by omega) (by omega) ht (fun e he=>hE e (gk.1 he).1)) rfl ?_ (IW _) (IW _) rfl k;simp only [bP,bp,AV.wf,dI,gr,Bool.and_true];rfl
def IZ (S:DS):Option aa:=some ⟨115,2,false,[aM (aC S.heap 0)]⟩
def Ke (S:DS) (done:List (Nd×Int)) (pre:Bool):List (Option aa):=if pre then wR S 10++[dz done,none,none,IJ S,IZ S] else wR S 11++[dz done,IZ S,none,none,IJ S]
def LX (pre:Bool):Nat:=if pre then 11 else 8
theorem ab.M4 {S:DS} {post:List (Option aa)} {K:AV->List (Option aa)->Prop} (hl:S.heap.length<=1000000)
  (k:K (.cy [.agg (aM (aC S.heap 0)), .v (.bool (decide (S.heap≠[])))]) (wR S (9+post.length)++post++[none,none,IJ S])):ab Tryz.prog 58 [.ptr 4 0 2 0 0] (ju S++post) K:=by
 have eI: ∀f l,bu f (List.map aM l)=List.map aM l:=fun f l=>aS _ _ (aA _ _)
 have hlen:(ju S++post).length=7+post.length:=by simp [ju];omega
 by_cases hne:S.heap=[]
 ·rw [decide_eq_false (by simp [hne])] at k;have P:=aK.pad M3 3
  refine ab.fr [4,5] P (by simp) ?_ rfl rfl ?_ ?_
  ·simp only [ju,hne];rfl
  ·intro j ob hj
   match j,hj with
   | 0,hj=>cases hj;rfl
   | 1,hj=>cases hj;rfl
   | j+2,hj=>simp [mG] at hj
  ·rw [hlen]
   have e:dW (sig [4,5] (7+post.length)) [4,5] (mG []++List.replicate 3 none) (ju S++post)=wR S (9+post.length)++post++[none,none,IJ S]:=by
    have ep:kA ([]:List dC)=[]:=rfl;simp only [dW,ju,wR,IJ,DS.pop,mG,hne,ep,if_true,Xb,U3,WR,WY,List.set_cons_zero,List.set_cons_succ,VB,Yg,aa.aV,bu,bw,AV.aV,List.append_assoc,WZ,WW,WX];rfl
   rw [e];rw [hne] at k;exact k
 ·rw [decide_eq_true hne] at k;have P:=Ph S.heap hne hl
  refine ab.fr [4,5] P (by simp) ?_ rfl rfl ?_ ?_
  ·simp only [ju,mG,WR,Xb,WY,V7,WG,VB,aa.aV,bu,bw,AV.aV,eI];rfl
  ·intro j ob hj
   match j,hj with
   | 0,hj=>cases hj;rfl
   | 1,hj=>cases hj;exact aA _ _
   | j+2,hj=>simp [mG] at hj
  ·rw [hlen]
   have e:dW (sig [4,5] (7+post.length)) [4,5] [some ⟨162,2,false,[[.vec 4 (kA S.heap).length, .v (.bool true)]]⟩,none,none,none,some ⟨115,2,true,(kA S.heap).map aM⟩] (ju S++post)=wR S (9+post.length)++post++[none,none,IJ S]:=by
    have e2:sig [4,5] (7+post.length) 4=9+post.length:=by simp [sig];omega
    simp only [dW,ju,wR,IJ,if_neg hne,WR,Xb,WY,List.set_cons_zero,List.set_cons_succ,VB,Yg,aa.aV,bu,bw,AV.aV,eI,e2,List.append_assoc,WZ];rfl
   rw [e];exact k
theorem JY {st:Nat->ByteArray->Option Nat} {E:List a8} (hE: ∀e∈E,0<=e.time∧e.time<=1099511627776) (root:ByteArray):l8 (Gi st E root):=yT (fun x h=>by cases h) ⟨by decide,Int.le_refl _⟩ hE
theorem ET (A:mW) (E:List a8) (G:List (ByteArray×List a8)) (root:ByteArray) (hG: ∀v,(lY G v).getD []=gO E v) (hE: ∀e∈E,0<=e.time∧e.time<=1099511627776) (hl:E.length<=31) (n:Nat) (hn:n<=32) (hst: ∀s l t,iV A s l=some t->t<n) :
  oC Tryz.prog 52 [.vp [.vp (cd A), .mp (dT G)], .vp [.v (.string root)]] [] ((sP (iV A) n E root).map DW):=by
 have ST:=fun a time S=>CH A E G a time S (hG a.1);have hol:=fun v=>qp E v;have NW:=Pc;simp only [mG] at NW
 (refine oC.enter Tryz.func52 rfl (by kernel_rfl) (by kernel_rfl) rfl (fun l=> ?_);simp only [Tryz.ntmps52,Tryz.results52,U9,U3,Nat.reduceAdd,Nat.reduceSub,WW,WX,WY,WZ])
 repeat (first|(with_reducible first|refine ag.up ?_|refine fun (K:AK) hK=> ?_|(refine hK _ ?_;clear hK K))|simp only [go_sem]|with_reducible refine wA ?_|clear hK K)
 refine ab.fr [] NW List.nodup_nil rfl rfl rfl (fun k ob h=>by simp at h) ?_
 repeat (first|(with_reducible first|refine ag.up ?_|refine fun (K:AK) hK=> ?_|(refine hK _ ?_;clear hK K))|simp only [go_sem]|with_reducible refine wA ?_|clear hK K)
 have e0:([some ⟨108,0,false,[]⟩,some ⟨108,1,false,[[.vec 0 0]]⟩,some ⟨79,2,true,[]⟩,some ⟨109,1,false,[[.vec 2 0]]⟩,some ⟨162,2,false,[[.vec 5 0, .v (.bool true)]]⟩,some ⟨115,2,true,[]⟩,some ⟨110,1,false,[[.ptr 4 0 2 0 0]]⟩]:List (Option aa))=ju ⟨[],[],[]⟩++[]:=rfl;have hS0:kB (iV A) E (root,0) xu ⟨[],[],[]⟩=Gi (iV A) E root:=rfl;refine ab.cA (S:=⟨[],[],[]⟩) (a:=(root,0)) (time:=1099511627776) (post:=[]) hG (by simp;omega) (by simp;omega) (by omega) hE ?_;have hb: ∀e∈E,e.time<=xu:=fun e he=>(hE e he).2;obtain ⟨hDL,hRP⟩:=BZ (n:=n) hst hb root;have hT0:=JY (st:=iV A) hE root;have hcand: ∀e∈E, ∀s t,iV A s e.label=some t->(e.to,t)∈iJ n E:=kN hst
 have hcl:(iJ n E).length<=992:=by rw [tK];exact Yh hl hn
 have hF:OQ (iV A) n E root<=900000:=by
  have h1:(Gi (iV A) E root).heap.length<=0+(gO E root).length:=IB;have h2:(iJ n E).length * (E.length+1)<=992 * 32:=Yh hcl (by omega);have h3:=hol root;unfold OQ;omega
 rw [sP];rw [show kB (iV A) E (root,0) 1099511627776 ⟨[],[],[]⟩=Gi (iV A) E root from rfl];generalize OQ (iV A) n E root=F at *;generalize Gi (iV A) E root=S0 at *;simp only [ju,WY,WZ]
 repeat (first|(with_reducible first|refine ag.up ?_|refine fun (K:AK) hK=> ?_|(refine hK _ ?_;clear hK K))|simp only [go_sem]|with_reducible refine wA ?_|clear hK K)
 have hF0:=hDL.fuel;refine ab.M4 (S:=S0) (post:=[dz []]) (by omega) ?_;simp only [wR,WY,WZ,U9,U3,Nat.reduceAdd,aM]
 repeat (first|(with_reducible first|refine ag.up ?_|refine fun (K:AK) hK=> ?_|(refine hK _ ?_;clear hK K))|simp only [go_sem]|with_reducible refine wA ?_|clear hK K)
 refine oN (ι:=DS×List (Nd×Int)×Nat×Bool) 8 (fun x=>[(8, .vec 7 0),(9, .ptr (LX x.2.2.2) 0 2 0 0),(10, .v (.bool (decide (x.1.heap≠[]))))]) (fun x=>Ke x.1 x.2.1 x.2.2.2) (fun x=> .run l ((fH (iV A) E x.2.2.1 x.1 (x.2.1.map Prod.fst)).map DW)) (fun x=>x.2.2.1)
  (fun x=>DL (iV A) E root (iJ n E) x.2.2.1 x.1 x.2.1∧l8 x.1∧x.2.2.1<=F) (S0,[],F,true) ⟨hDL,hT0,Nat.le_refl _⟩ ?_ ?_
 ·simp only [Ke,wR,LX,if_true,dz,IZ,aM,WY,WZ]
  (refine aq ?_ ?_ ?_<;>simp only [aD,WJ,WK,WW,WX,aW,aY,AV.v.injEq,Value.int.injEq,Value.bool.injEq,Value.string.injEq,AV.vec.injEq,AV.ptr.injEq,true_or,or_true,false_or,or_false,aa.mk.injEq,forall_eq_apply_imp_iff,forall_eq,forall_eq',go_sem])
  all_goals (by_cases q:S0.heap=[]<;>simp [q,IJ,aA])
 ·rintro ⟨S,done,f,pre⟩ ⟨hD,hT,hf⟩ K hK;simp only at hD hT hf ⊢
  by_cases hne:S.heap=[]
  ·have hd:decide (S.heap≠[])=false:=by simp [hne]
   rw [re f _ hne,hd]
   cases pre
   ·simp only [Ke,wR,LX,if_false,Wy,dz,IZ,aM,WY,WZ,Xb]
    repeat (first|(with_reducible first|refine ag.up ?_|refine fun (K:AK) hK=> ?_|(refine hK _ ?_;clear hK K))|simp only [go_sem]|with_reducible refine wA ?_|clear hK K)
    exact .inl trivial
   ·simp only [Ke,wR,LX,if_true,dz,IZ,aM,WY,WZ,Xb]
    repeat (first|(with_reducible first|refine ag.up ?_|refine fun (K:AK) hK=> ?_|(refine hK _ ?_;clear hK K))|simp only [go_sem]|with_reducible refine wA ?_|clear hK K)
    exact .inl trivial
  ·rw [decide_eq_true hne]
   have hq:=hD.next hcand hne
   obtain ⟨i,nd,f',rfl,h1,h2,h3,h4⟩:=hq;have eK: ∀f (l:List (Nd×Int)),bu f (bB bP l)=bB bP l:=fun f l=>aS _ _ (cO _ _);have eI: ∀f l,bu f (List.map aM l)=List.map aM l:=fun f l=>aS _ _ (aA _ _);have eNn: ∀f l,bu f (List.map bP l)=List.map bP l:=fun f l=>aS _ _ (gq _ _);have eA: ∀f,bw f (cd A)=cd A:=fun f=>cn _ _ (dI _ _)
   refine Or.inr (xl [0,1,2,3,4,if pre then 10 else 11,6,7,if pre then 11 else 8] (aD 61 [(0, .v (.func (.yield l) #[] #[])),(1, .vp [.vp (cd A), .mp (dT G)]),(2, .vp [.v (.string root)]),(4, .ptr 1 0 1 0 0),(5, .ptr 3 0 1 0 0),(6, .ptr 6 0 1 0 0),(7, .fn 54 [] [.vp [.vp (cd A), .mp (dT G)], .ptr 1 0 1 0 0, .ptr 6 0 1 0 0, .ptr 3 0 1 0 0]),(8, .vec 7 0),(9, .ptr 8 0 2 0 0),(10, .v (.bool true))])
    (ju S.pop++[dz done,IZ S]) ?_ ?_ ?_ ?_ (by kernel_rfl) ?_)
   ·cases pre<;>decide
   ·have e1:(aM (aC S.heap 0)).length=2:=rfl;cases pre<;>simp only [Ke,wR,ju,IJ,if_neg hne,if_true,if_false,Wy,dz,IZ,aM,WY,WZ,WR,Xb,V7,WG,VB,aa.aV,bu,bw,AV.aV,eK,eI,eNn]<;>rfl
   ·intro k ob hk;have hm:=VD hk;simp only [ju,dz,IZ,WY,WZ,Wr,Ve,Wt,or_false] at hm
    rcases hm with rfl|rfl|rfl|rfl|rfl|rfl|rfl|rfl|rfl
    ·exact cO _ _
    ·rfl
    ·exact gq _ _
    ·rfl
    ·rfl
    ·exact aA _ _
    ·rfl
    ·exact cO _ _
    ·rfl
   ·cases pre
    ·simp only [Ke,wR,if_false,Wy,WY,WZ,U9,U3];simp only [go_sem,w6,ke,cf,aD,LX,List.foldl,sig,bw,AV.aV,true_or,or_true,eA]
    ·simp only [Ke,wR,if_true,WY,WZ,U9,U3];simp only [go_sem,w6,ke,cf,aD,LX,List.foldl,sig,bw,AV.aV,true_or,or_true,eA]
   have k1:S.pop.nodes[i]? = some nd:=h2;have hfl:=hD.fuel;have hnl:=hD.len;have hpl:=sd hne
   have hdl:done.length<=(iJ n E).length:=by
    have:=Hk hD.QG hD.Sf
    simpa using this
   have hnl2:(done.length+1) * E.length<=993 * 31:=Yh (by omega) hl;have hTm:=KO hT hne;have hkey:=hT _ ((fU hne).2 (.inl rfl))
   have hTh:S.pop.heap.length<=f'+1:=by show (kA S.heap).length<=_;omega
   have hTn:S.pop.nodes.length=S.nodes.length:=rfl;have hRn: ∀(hd:nd∉done.map Prod.fst),fH (iV A) E (f'+1) S (done.map Prod.fst)=(nd, -(aC S.heap 0).1) :: fH (iV A) E f' (kB (iV A) E nd (-(aC S.heap 0).1) S.pop) (done.map Prod.fst++[nd]):=fun hd=>tN hne h1 h2 hd;have hRo: ∀(hd:nd∈done.map Prod.fst),fH (iV A) E (f'+1) S (done.map Prod.fst)=fH (iV A) E f' S.pop (done.map Prod.fst):=fun hd=>tO hne h1 h2 hd;simp only [IZ,aM,h1];generalize (aC S.heap 0).1=key at *;generalize fH (iV A) E (f'+1) S (done.map Prod.fst)=Y at *;generalize S.pop=T at *
   have k2:(T.nodes.map bP).getD i []=[.v (.string nd.1), .v (.int .i64 (nd.2:Nat))]:=by
    have hi:=(U4.1 k1);obtain ⟨hi,rfl⟩:=hi;rw [getD_map bP T.nodes i [] hi];rfl
   have k3:(T.nodes.map bP).length=T.nodes.length:=by simp
   have k4:i<T.nodes.length:=(U4.1 k1).1
   have tt:iD Tryz.prog 79=some [.s, .i]:=by kernel_rfl
   have g1:=jk pJ nd (dm done);have g3:=pJ nd nd;rw [decide_eq_true rfl] at g3;rw [Gj] at g1;simp only [ju,dz,WY,WZ];simp only [aD,WJ,WK,WW,WX,go_sem]
   by_cases hd:nd∈done.map Prod.fst
   ·rw [if_pos hd] at g1;simp only [bP,VB] at g1 g3
    have d1:decide ((0:Int)<1)=true:=by decide
    repeat ((fail_if_success (with_reducible refine bL (i:=14) ?_));first|(with_reducible first|refine ag.up ?_|refine fun (K:AK) hK=> ?_|(refine hK _ ?_;clear hK K))|simp only [go_sem,k2,k3,g1,g3,tt,d1]|with_reducible refine wA ?_|clear hK K)
    repeat ((fail_if_success (with_reducible refine bL (i:=8) ?_));first|(with_reducible first|refine ag.up ?_|refine fun (K:AK) hK=> ?_|(refine hK _ ?_;clear hK K))|simp only [go_sem]|with_reducible refine wA ?_|clear hK K)
    refine BV [0,1,2,3,4,5,6,7,10] (aD 61 [(0, .v (.func (.yield l) #[] #[])),(1, .vp [.vp (cd A), .mp (dT G)]),(2, .vp [.v (.string root)]),(4, .ptr 1 0 1 0 0),(5, .ptr 3 0 1 0 0),(6, .ptr 6 0 1 0 0),(7, .fn 54 [] [.vp [.vp (cd A), .mp (dT G)], .ptr 1 0 1 0 0, .ptr 6 0 1 0 0, .ptr 3 0 1 0 0]),(8, .vec 7 0),(9, .ptr 8 0 2 0 0)])
     (ju T++[dz (done),some ⟨115,2,false,[[.v (.int .i64 key), .v (.int .i64 (i:Nat))]]⟩]) (by decide) ?_ ?_ ?_ (by kernel_rfl) ?_
    ·simp only [ju,dz,WY,WZ,WR,Xb,V7,WG,VB,aa.aV,bu,bw,AV.aV,eK,eI,eNn];rfl
    ·intro k ob hk;have hm:=VD hk;simp only [ju,dz,WY,WZ,Wr,Ve,Wt,or_false] at hm
     rcases hm with rfl|rfl|rfl|rfl|rfl|rfl|rfl|rfl|rfl
     ·exact cO _ _
     ·rfl
     ·exact gq _ _
     ·rfl
     ·rfl
     ·exact aA _ _
     ·rfl
     ·exact cO _ _
     ·rfl
    ·simp only [U9,U3];simp only [go_sem,w6,aD,List.foldl,sig,bw,AV.aV,true_or,or_true,eA]
    simp only [ju,dz,WY,WZ];simp only [aD,WJ,WK,WW,WX,go_sem]
    repeat (first|(with_reducible first|refine ag.up ?_|refine fun (K:AK) hK=> ?_|(refine hK _ ?_;clear hK K))|simp only [go_sem]|with_reducible refine wA ?_|clear hK K)
    refine ab.M4 (S:=T) (post:=[dz (done),some ⟨115,2,false,[[.v (.int .i64 key), .v (.int .i64 (i:Nat))]]⟩]) (by omega) ?_;simp only [wR,WY,WZ,U9,U3,Nat.reduceAdd,aM]
    repeat (first|(with_reducible first|refine ag.up ?_|refine fun (K:AK) hK=> ?_|(refine hK _ ?_;clear hK K))|simp only [go_sem]|with_reducible refine wA ?_|clear hK K)
    rw [hRo hd];refine aJ.mk (T,done,f',false) ⟨h3 hd,hTm,(show f'<=F by omega)⟩ (Nat.lt_succ_self f') ?_;simp only [Ke,wR,LX,if_false,Wy,dz,IZ,aM,WY,WZ]
    (refine aq ?_ ?_ ?_<;>simp only [aD,WJ,WK,WW,WX,aW,aY,AV.v.injEq,Value.int.injEq,Value.bool.injEq,Value.string.injEq,AV.vec.injEq,AV.ptr.injEq,true_or,or_true,false_or,or_false,aa.mk.injEq,forall_eq_apply_imp_iff,forall_eq,forall_eq',go_sem])
    all_goals (by_cases q:T.heap=[]<;>simp [q,IJ,aA])
   ·rw [if_neg hd] at g1;simp only [bP,Yg] at g1 g3
    have d1:decide ((0:Int)<0)=false:=by decide
    repeat ((fail_if_success (with_reducible refine bL (i:=11) ?_));first|(with_reducible first|refine ag.up ?_|refine fun (K:AK) hK=> ?_|(refine hK _ ?_;clear hK K))|simp only [go_sem,k2,k3,g1,g3,tt,d1]|with_reducible refine wA ?_|clear hK K)
    refine Or.inr ?_;intro fr m D nu a w hZr hn0 hm hs hmx R hO hR;have hs':=hs.drew;have hmv:=hs'.ev (.tmp 8);have hpv:=hs'.ev (.tmp 11);simp only [AS.ev,List.getD_cons_succ,List.getD_cons_zero] at hmv hpv
    have hsz:a.tmps.size=61:=by have:=hs'.tm.len;simpa using this.symm
    obtain ⟨kx,hkr,hkx⟩:=lI (P:=Tryz.prog) (T:=79) hs'.ro hpv (r:= .agg [.v (.string nd.1), .v (.int .i64 (nd.2:Nat))]) rfl (by refine ⟨⟨rfl,rfl⟩, ?_⟩;show _<=2;exact Nat.le_of_eq (by kernel_rfl))
    have hlk:iX Tryz.prog 3 [.s, .i] (bB bP (dm done)) [.v (.string nd.1), .v (.int .i64 (nd.2:Nat))] false=some (.v (.int .i64 0)):=by
     rw [iX,if_pos g3,g1];rfl
    have hst2:=nW pJ nd 1 (dm done);obtain ⟨w1,w2,st,r1,r2,r3,r4,hmo,hro2⟩:=O0 (P:=Tryz.prog) (T:=107) (kt:=79) (et:=3) (zx:= .int .i64 0) hs'.ro hmv hkx (by kernel_rfl) tt rfl rfl rfl g3 hlk (by kernel_rfl) hst2;refine ou hmx (by kernel_rfl) hO (Jw (by decide+kernel) (fun j=>match j with|0=>a.eval (.tmp 8)|1=>kx|2=> .int .i64 0|3=> .int .i64 1|4=> .tuple #[.int .i64 0,st]|5=>st|_=>Go.undef) (fun d=>if d 6 then w2 else if d 4 then w1 else w.drew) rfl ?_)
    have W46: ∀ {d:Nat->Bool},d 6=false->d 4=false->(if d 6=true then w2 else if d 4=true then w1 else w.drew)=w.drew:=fun h6 h4=>by rw [h6,h4];rfl
    have W6: ∀ {d:Nat->Bool},d 6=false->d 4=true->(if d 6=true then w2 else if d 4=true then w1 else w.drew)=w1:=fun h6 h4=>by rw [h6,h4];rfl
    have i6: ∀(d:Nat->Bool) (k:Nat),k≠6->jS d k 6=d 6:=fun d k h=>if_neg (Ne.symm h);have i4: ∀(d:Nat->Bool) (k:Nat),k≠4->jS d k 4=d 4:=fun d k h=>if_neg (Ne.symm h)
    refine ⟨fun x d hok hd hdep=>⟨rfl, .inl ?_⟩,fun x d hok hd hdep=>⟨rfl, .inl ?_⟩,fun x d hok hd hdep=>⟨rfl, .inl ?_⟩,fun x d hok hd hdep=>⟨rfl, .inl ?_⟩,fun x d hok hd hdep=>⟨rfl, .inl ?_⟩,fun x d hok hd hdep=>⟨rfl, .inl ?_⟩,fun x d hok hd hdep=>⟨rfl, .inr ⟨?_,rfl⟩⟩,fun x d hall=> ?_⟩
    ·simp only [i6 d 0 (by decide),i4 d 0 (by decide)];simp only [execOp,Sem.run_pure]
    ·have hx0:=hdep
     have h4:d 4=false:=by
      cases h:d 4
      ·rfl
      ·rw [hok 4 1 (by decide) h (by kernel_rfl)] at hd;cases hd
     have h6:d 6=false:=by
      cases h:d 6
      ·rfl
      ·rw [hok 6 1 (by decide) h (by kernel_rfl)] at hd;cases hd
     simp only [i6 d 1 (by decide),i4 d 1 (by decide)];rw [W46 h6 h4];simp only [execOp,fw (show (41:Nat)≠11 by decide)];simp [hkr]
     trace_state
    ·have x0:=(hdep 0 (by decide) (by kernel_rfl)).1;have x1:=(hdep 1 (by decide) (by kernel_rfl)).1
     have h6:d 6=false:=by
      cases h:d 6
      ·rfl
      ·rw [hok 6 2 (by decide) h (by kernel_rfl)] at hd;cases hd
     simp only [i6 d 2 (by decide),i4 d 2 (by decide)]
     have e1:((a.put (some 41) (x 0)).put (some 42) (x 1)).eval (.tmp 41)=a.eval (.tmp 8):=by rw [fw (by decide),fx (by rw [hsz];decide)];exact x0
     have e2:((a.put (some 41) (x 0)).put (some 42) (x 1)).eval (.tmp 42)=kx:=by rw [fx (by rw [cm,hsz];decide)];exact x1
     simp only [execOp,e1,e2]
     cases h4:d 4
     ·simp [h6,r1]
     ·simp [h6,r3]
    ·have x2:=(hdep 2 (by decide) (by kernel_rfl)).1;simp only [i6 d 3 (by decide),i4 d 3 (by decide)]
     have e1:(((a.put (some 41) (x 0)).put (some 42) (x 1)).put (some 43) (x 2)).eval (.tmp 43) = .int .i64 0:=by rw [fx (by rw [cm,cm,hsz];decide)];exact x2
     simp only [execOp,e1]
     rfl
    ·have x0:=(hdep 0 (by decide) (by kernel_rfl)).1;have x1:=(hdep 1 (by decide) (by kernel_rfl)).1
     have h6:d 6=false:=by
      cases h:d 6
      ·rfl
      ·rw [hok 6 4 (by decide) h (by kernel_rfl)] at hd;cases hd
     have e1:((((a.put (some 41) (x 0)).put (some 42) (x 1)).put (some 43) (x 2)).put (some 44) (x 3)).eval (.tmp 41)=a.eval (.tmp 8):=by rw [fw (by decide),fw (by decide),fw (by decide),fx (by rw [hsz];decide)];exact x0
     have e2:((((a.put (some 41) (x 0)).put (some 42) (x 1)).put (some 43) (x 2)).put (some 44) (x 3)).eval (.tmp 42)=kx:=by rw [fw (by decide),fw (by decide),fx (by rw [cm,hsz];decide)];exact x1
     simp only [execOp,e1,e2,i6 d 4 (by decide)];simp [h6,hd,jS,r2]
    ·have x4:=(hdep 4 (by decide) (by kernel_rfl)).1;simp only [i6 d 5 (by decide),i4 d 5 (by decide)]
     have e1:(((((a.put (some 41) (x 0)).put (some 42) (x 1)).put (some 43) (x 2)).put (some 44) (x 3)).put (some 45) (x 4)).eval (.tmp 45) = .tuple #[.int .i64 0,st]:=by rw [fx (by rw [cm,cm,cm,cm,hsz];decide)];exact x4
     simp only [execOp,e1]
     rfl
    ·have x0:=(hdep 0 (by decide) (by kernel_rfl)).1;have x3:=(hdep 3 (by decide) (by kernel_rfl)).1;have x5:=(hdep 5 (by decide) (by kernel_rfl)).1;have h4:=(hdep 4 (by decide) (by kernel_rfl)).2
     have e1:((((((a.put (some 41) (x 0)).put (some 42) (x 1)).put (some 43) (x 2)).put (some 44) (x 3)).put (some 45) (x 4)).put (some 46) (x 5)).eval (.tmp 41)=a.eval (.tmp 8):=by rw [fw (by decide),fw (by decide),fw (by decide),fw (by decide),fw (by decide),fx (by rw [hsz];decide)];exact x0
     have e2:((((((a.put (some 41) (x 0)).put (some 42) (x 1)).put (some 43) (x 2)).put (some 44) (x 3)).put (some 45) (x 4)).put (some 46) (x 5)).eval (.tmp 46)=st:=by rw [fx (by rw [cm,cm,cm,cm,cm,hsz];decide)];exact x5
     have e3:((((((a.put (some 41) (x 0)).put (some 42) (x 1)).put (some 43) (x 2)).put (some 44) (x 3)).put (some 45) (x 4)).put (some 46) (x 5)).eval (.tmp 44) = .int .i64 1:=by rw [fw (by decide),fw (by decide),fx (by rw [cm,cm,cm,hsz];decide)];exact x3
     simp only [execOp,e1,e2,e3];simp [hd,h4,jS,r4]
    ·have hx: ∀i,i<7->x i=_:=fun i hi=>(hall i hi).1;have x0:x 0=a.eval (.tmp 8):=hx 0 (by decide);have x1:x 1=kx:=hx 1 (by decide);have x2:x 2 = .int .i64 0:=hx 2 (by decide);have x3:x 3 = .int .i64 1:=hx 3 (by decide);have q1:=hs'.put (.refl _ _ _) hs'.ro hmv (some 41);have q2:=q1.put (.refl _ _ _) q1.ro hkx (some 42);have q3:=q2.put (.refl _ _ _) q2.ro (.v (.int .i64 0)) (some 43);have q4:=q3.put (.refl _ _ _) q3.ro (.v (.int .i64 1)) (some 44);have q5:=q4.put (.refl _ _ _) q4.ro (.undef (x 4)) (some 45);have q6:=q5.put (.refl _ _ _) q5.ro (.undef (x 5)) (some 46);have q7:=q6.put hmo hro2 (.undef (x 6)) none;rw [<-x0, <- x1, <- x2, <- x3] at q7
     have hW:(if d 6=true then w2 else if d 4=true then w1 else w.drew)=w2:=by rw [(hall 6 (by decide)).2];rfl
     show R .normal (((((((a.put (some 41) (x 0)).put (some 42) (x 1)).put (some 43) (x 2)).put (some 44) (x 3)).put (some 45) (x 4)).put (some 46) (x 5)).put none (x 6)) (if d 6=true then w2 else if d 4=true then w1 else w.drew);rw [hW]
     refine hR .normal D fr.Z _ _ _ nu ?_ q7 ?_
     ·exact m.own hm hs.ro (bt.trans (aw (cP w)) hmo) hro2
     clear q1 q2 q3 q4 q5 q6 q7 hR;rw [Gk (τ:= -key) hd];simp only [AS.put];have hH:=h4 hd
     have hwn:IntKind.i64.wrap (0 - key) = -key:=by rw [cF (by omega) (by omega)];omega
     rw [hRn hd,WR];simp only [DW,bP]
     repeat ((fail_if_success (with_reducible refine bL (i:=13) ?_));first|(with_reducible first|refine ag.up ?_|refine fun (K:AK) hK=> ?_|(refine hK _ ?_;clear hK K))|simp only [go_sem,hwn]|with_reducible refine wA ?_|clear hK K)
     refine jc.mk ?_ ?_
     ·repeat (first|(with_reducible first|refine ag.up ?_|refine fun (K:AK) hK=> ?_|(refine hK _ ?_;clear hK K))|simp only [go_sem,hwn]|with_reducible refine wA ?_|clear hK K)
      refine ab.cA (S:=T) (a:=nd) (time:= -key) (post:=[dz (done++[(nd, -key)]),some ⟨115,2,false,[[.v (.int .i64 key), .v (.int .i64 (i:Nat))]]⟩,some ⟨79,2,false,[[.v (.string nd.1), .v (.int .i64 (nd.2:Nat))]]⟩]) hG (by omega) (by rw [hTn];omega) (by omega) hE ?_;have hT2:=yT (st:=iV A) (E:=E) (a:=nd) (time:= -key) hTm (by omega) hE;have hH1:=hH.1;have hH2:=hH1.fuel
      have hmap:(done++[(nd, -key)]).map Prod.fst=done.map Prod.fst++[nd]:=by simp
      clear hH h4;generalize kB (iV A) E nd (-key) T=T2 at *;simp only [ju,dz,WY,WZ]
      repeat ((fail_if_success (with_reducible refine bL (i:=8) ?_));first|(with_reducible first|refine ag.up ?_|refine fun (K:AK) hK=> ?_|(refine hK _ ?_;clear hK K))|simp only [go_sem]|with_reducible refine wA ?_|clear hK K)
      refine BV [0,1,2,3,4,5,6,7,10] (aD 61 [(0, .v (.func (.yield l) #[] #[])),(1, .vp [.vp (cd A), .mp (dT G)]),(2, .vp [.v (.string root)]),(4, .ptr 1 0 1 0 0),(5, .ptr 3 0 1 0 0),(6, .ptr 6 0 1 0 0),(7, .fn 54 [] [.vp [.vp (cd A), .mp (dT G)], .ptr 1 0 1 0 0, .ptr 6 0 1 0 0, .ptr 3 0 1 0 0]),(8, .vec 7 0),(9, .ptr 8 0 2 0 0)])
       (ju T2++[dz (done++[(nd, -key)]),some ⟨115,2,false,[[.v (.int .i64 key), .v (.int .i64 (i:Nat))]]⟩]) (by decide) ?_ ?_ ?_ (by kernel_rfl) ?_
      ·simp only [ju,dz,WY,WZ,WR,Xb,V7,WG,VB,aa.aV,bu,bw,AV.aV,eK,eI,eNn];rfl
      ·intro k ob hk;have hm:=VD hk;simp only [ju,dz,WY,WZ,Wr,Ve,Wt,or_false] at hm
       rcases hm with rfl|rfl|rfl|rfl|rfl|rfl|rfl|rfl|rfl
       ·exact cO _ _
       ·rfl
       ·exact gq _ _
       ·rfl
       ·rfl
       ·exact aA _ _
       ·rfl
       ·exact cO _ _
       ·rfl
      ·simp only [U9,U3];simp only [go_sem,w6,aD,List.foldl,sig,bw,AV.aV,true_or,or_true,eA]
      simp only [ju,dz,WY,WZ];simp only [aD,WJ,WK,WW,WX,go_sem]
      repeat (first|(with_reducible first|refine ag.up ?_|refine fun (K:AK) hK=> ?_|(refine hK _ ?_;clear hK K))|simp only [go_sem]|with_reducible refine wA ?_|clear hK K)
      refine ab.M4 (S:=T2) (post:=[dz (done++[(nd, -key)]),some ⟨115,2,false,[[.v (.int .i64 key), .v (.int .i64 (i:Nat))]]⟩]) (by omega) ?_;simp only [wR,WY,WZ,U9,U3,Nat.reduceAdd,aM]
      repeat (first|(with_reducible first|refine ag.up ?_|refine fun (K:AK) hK=> ?_|(refine hK _ ?_;clear hK K))|simp only [go_sem]|with_reducible refine wA ?_|clear hK K)
      refine aJ.mk (T2,done++[(nd, -key)],f',false) ⟨hH1,hT2,(show f'<=F by omega)⟩ (Nat.lt_succ_self f') ?_;simp only [Ke,wR,LX,if_false,Wy,dz,IZ,aM,WY,WZ,hmap]
      (refine aq ?_ ?_ ?_<;>simp only [aD,WJ,WK,WW,WX,aW,aY,AV.v.injEq,Value.int.injEq,Value.bool.injEq,Value.string.injEq,AV.vec.injEq,AV.ptr.injEq,true_or,or_true,false_or,or_false,aa.mk.injEq,forall_eq_apply_imp_iff,forall_eq,forall_eq',go_sem])
      all_goals (by_cases q:T2.heap=[]<;>simp [q,IJ,aA])
     ·repeat (first|(with_reducible first|refine ag.up ?_|refine fun (K:AK) hK=> ?_|(refine hK _ ?_;clear hK K))|simp only [go_sem]|with_reducible refine wA ?_|clear hK K)
      exact .inr trivial
section
theorem EU (A:mW) (G:List (ByteArray×List a8)) (root:ByteArray):ah Tryz.prog 30 [.agg [.vp (cd A), .mp (dT G)], .v (.string root)] (.fn 52 [] [.vp [.vp (cd A), .mp (dT G)], .vp [.v (.string root)]]):=by
 have hA:bp 0 [.agg [.vp (cd A), .mp (dT G)], .v (.string root)]=true:=by simp only [bp,AV.wf,dI,gr,Wg]
 have hF:(AV.fn 52 [] [.vp [.vp (cd A), .mp (dT G)], .vp [.v (.string root)]]).wf 0=true:=by simp only [bp,AV.wf,dI,gr,Wg]
 (refine ah.oT Tryz.func30 rfl (by kernel_rfl) (by kernel_rfl) rfl hA hF ?_;simp only [Tryz.ntmps30,Tryz.results30,U9,U3,Nat.reduceAdd,Nat.reduceSub,WW,WX,WY,WZ])
 repeat (first|(with_reducible first|refine ag.up ?_|refine fun (K:AK) hK=> ?_|(refine hK _ ?_;clear hK K))|simp only [go_sem]|clear hK K)
 refine cB.of 6 rfl ?_;simp only [aa.hl,AV.wf,bp,dI,gr,Wg,WT];simp
theorem KH (x:Ex) (e:Int) (h0:e≠0) (E:List a8) (C:ah Tryz.prog 49 [.agg (bC x)] (.cy [.v (.pointer none), .v (.int .i64 e)])):ah Tryz.prog 27 [.agg (bC x), .aH 5 (E.map aU) E.length] (.cy [.agg [.v (.pointer none), .v (.map none)], .v (.int .i64 e)]):=by
 have z0:(e !=0)=true:=by simp [h0]
 rw [aN] at C ⊢
 (refine ah.enter Tryz.func27 rfl (by kernel_rfl) (by kernel_rfl) rfl (by first|rfl|(simp only [go_sem,WT,Wg,Wn])) (by first|rfl|(simp only [go_sem,WT,Wg,Wn])) ?_;simp only [Tryz.ntmps27,Tryz.results27,U9,U3,Nat.reduceAdd,Nat.reduceSub,WW,WX,WY,WZ])
 repeat (first|(with_reducible first|refine ag.up ?_|refine fun (K:AK) hK=> ?_|(refine hK _ ?_;clear hK K))|simp only [go_sem]|clear hK K)
 refine ab.one C ?_
 repeat (first|(with_reducible first|refine ag.up ?_|refine fun (K:AK) hK=> ?_|(refine hK _ ?_;clear hK K))|simp only [go_sem,z0]|clear hK K)
 (refine jb.of 40 rfl ?_;simp only [go_sem])
section
variable {st:Nat->ByteArray->Option Nat} {tk:Nat->Bool} {em:Bool} {n:Nat}
def TA (tk:Nat->Bool) (root:ByteArray) (p:Nd×Int):Option (K2×Int):=if tk p.1.2 then some ((root,p.1.1),p.2) else none
def ti (st:Nat->ByteArray->Option Nat) (tk:Nat->Bool) (em:Bool) (n:Nat) (E:List a8) (i:Nat):PL:=fe (((bl E).take i).flatMap (jq st tk em n E)) []
def A6 (st:Nat->ByteArray->Option Nat) (tk:Nat->Bool) (n:Nat) (E:List a8) (root:ByteArray) (b:PL) (k:Nat):PL:=fe (((sP st n E root).take k).filterMap (TA tk root)) b
theorem EN {E:List a8} {i:Nat} (h:i<(bl E).length):ti st tk em n E (i+1)=A6 st tk n E (bl E)[i].1.1 (if em then fm (ti st tk em n E i) ((bl E)[i].1.1,(bl E)[i].1.1) (bl E)[i].2 else ti st tk em n E i) (sP st n E (bl E)[i].1.1).length:=by
 rw [ti,Xe h,List.flatMap_append,lN,A6,Xc];simp only [List.flatMap_cons,List.flatMap_nil,List.append_nil,jq];rw [lN];cases em<;>rfl
theorem EL {E:List a8} {root:ByteArray} {b:PL} {k:Nat} (h:k<(sP st n E root).length):A6 st tk n E root b (k+1)=if tk (sP st n E root)[k].1.2 then fm (A6 st tk n E root b k) (root,(sP st n E root)[k].1.1) (sP st n E root)[k].2 else A6 st tk n E root b k:=by
 rw [A6,Xe h,List.filterMap_append,lN];simp only [List.filterMap_cons,List.filterMap_nil,TA];cases tk (sP st n E root)[k].1.2<;>rfl
theorem uu {K:Type} [DecidableEq K]: ∀(l b:List (K×Int)),(fe l b).length<=b.length+l.length
 | [],b=>Nat.le_refl _
 | p :: l,b=>by
  have h1:=uu l (fm b p.1 p.2);have h2:=qR b p.1 p.2;show (fe l (fm b p.1 p.2)).length<=_;simp only [U9];omega
theorem JX {E:List a8} (hst: ∀s l t,st s l=some t->t<n) (hb: ∀e∈E,e.time<=xu) (root:ByteArray):(sP st n E root).length<=E.length * n:=by
 have F:=vv hst hb root
 have h:=Hk F.nd (m:=iJ n E) (fun x hx=>by
  obtain ⟨p,hp,rfl⟩:=List.mem_map.1 hx;have hw:=F.gu p hp
  have key: ∀ {τ v s},wM st E τ root v s->(v,s)∈iJ n E:=fun h=>by
   cases h with
   | one e s h1 h2 h3 h4=>exact kN hst e h1 0 _ h4
   | more e s t h1 h2 h3 h4=>exact kN hst e h2 s _ h4
  exact key hw)
 rw [tK,List.length_map] at h;exact h
theorem yB {E:List a8} (hst: ∀s l t,st s l=some t->t<n) (hb: ∀e∈E,e.time<=xu) (hl:E.length<=31) (hn:n<=32): ∀i,(ti st tk em n E i).length<=100000:=fun i=>by
 have h1:=uu (((bl E).take i).flatMap (jq st tk em n E)) []
 have h2: ∀l:PL,(l.flatMap (jq st tk em n E)).length<=l.length * 993:=by
  intro l
  induction l with
  | nil=>simp
  | cons a l ih=>
   have h3:=JX hst hb a.1.1
   have h4:(jq st tk em n E a).length<=1+(sP st n E a.1.1).length:=by
    rw [jq,List.length_append]
    have:=List.length_filterMap_le (fun p:Nd×Int=>if tk p.1.2 then some ((a.1.1,p.1.1),p.2) else none) (sP st n E a.1.1)
    cases em<;>simp<;>omega
   have h5:E.length * n<=31 * 32:=Nat.mul_le_mul hl hn;rw [List.flatMap_cons,List.length_append,U9];omega
 have h3:=h2 ((bl E).take i)
 have h4:(bl E).length<=62:=by
  have:=nZ E E.length (Nat.le_refl _)
  rw [Xc] at this;rw [bl,(cW _).length_eq];omega
 have h5:((bl E).take i).length<=62:=by rw [List.length_take];omega
 simp only [U3] at h1;rw [ti];omega
end
noncomputable def um (x:Ex) (E:List a8):AV:=if fb x E=0 then .cy [.aH 3 ((fc x E).map bV) (fc x E).length, .v (.int .i64 0)] else .cy [.v (.slice none 0 0), .v (.int .i64 (fb x E))]
theorem uk (x:Ex) (E:List a8) (hl:E.length<=31) (hA: ∀A,dE x (ck x) = .inl A->AOk A):(fc x E).length<=100000:=by
 unfold fc
 cases ha:dE x (ck x) with
 | inr e=>simp
 | inl A=>
  simp only
  split
  ·rename_i he;have ok:=hA A ha
   have:=yB (tk:=fun s=>dx A s) (em:=dF x) (Bp ok) (rk he) hl ok.max (bl E).length
   rw [ti,Xc] at this;rw [mN,pf,(cW _).length_eq];exact this
  ·simp
theorem uX (x:Ex) (E:List a8) (hx:x.ok) (hok: ∀e∈E,qA e) (hl:E.length<=31) (hA: ∀A,dE x (ck x) = .inl A->AOk A):ah Tryz.prog 9 [.agg (bC x), .aH 5 (E.map aU) E.length] (um x E):=by
 have NW:=Mz x hx;have eW: ∀n l,bZ n (bB aX l)=true:=fun n l=>fD (fun _=>rfl) l;have EM:=uU x hx;have VT:=KJ E (by omega);unfold Eu at NW;unfold um
 cases ha:dE x (ck x) with
 | inr e=>
  rw [ha] at NW;have h0:=tH ha
  have hp:fb x E=e:=by rw [fb,ha]
  have OV:=KH x e h0 E NW
  have z0:(e !=0)=true:=by simp [h0]
  rw [hp,if_neg h0];rw [aN] at OV ⊢
  (refine ah.enter Tryz.func9 rfl (by kernel_rfl) (by kernel_rfl) rfl (by first|rfl|(simp only [go_sem,WT,Wg,Wn])) (by first|rfl|(simp only [go_sem,WT,Wg,Wn])) ?_;simp only [Tryz.ntmps9,Tryz.results9,U9,U3,Nat.reduceAdd,Nat.reduceSub,WW,WX,WY,WZ])
  repeat (first|(with_reducible first|refine ag.up ?_|refine fun (K:AK) hK=> ?_|(refine hK _ ?_;clear hK K))|simp only [go_sem]|with_reducible refine wA ?_|clear hK K)
  refine ab.one OV ?_
  repeat (first|(with_reducible first|refine ag.up ?_|refine fun (K:AK) hK=> ?_|(refine hK _ ?_;clear hK K))|simp only [go_sem,z0]|with_reducible refine wA ?_|clear hK K)
  (refine jb.of 40 rfl ?_;simp only [go_sem])
 | inl A=>
  rw [ha] at NW;have ok:=hA A ha
  have hp:fb x E=e9 E:=by rw [fb,ha]
  have OV:=MU x A E NW hok (by omega);rw [hp]
  by_cases he:e9 E=0
  ·have hL:fc x E=mN x A E:=by rw [fc,ha];simp only [if_pos he]
   rw [if_pos he,hL];rw [pN,if_pos he] at OV;have hE: ∀e∈E,0<=e.time∧e.time<=1099511627776:=fun e h=>tP (oR he e h);have hst:=Bp ok;have RS:=fun root=>ET A E (xV E) root (GJ E) hE hl A.rows.length ok.max hst;have RC:=fun root=>EU A (xV E) root;have TK:=fun s:Int=>Gm A ok.ends s;have hwA: ∀n,bp n (cd A)=true:=fun n=>dI n A;have hwG: ∀n,bZ n (dT (xV E))=true:=fun n=>gr n _;generalize cd A=vA at *;generalize dT (xV E)=vG at *;rw [aN] at OV EM ⊢
   (refine ah.enter Tryz.func9 rfl (by kernel_rfl) (by kernel_rfl) rfl (by first|rfl|(simp only [go_sem,WT,Wg,Wn])) (by first|rfl|(simp only [go_sem,WT,Wg,Wn])) ?_;simp only [Tryz.ntmps9,Tryz.results9,U9,U3,Nat.reduceAdd,Nat.reduceSub,WW,WX,WY,WZ])
   repeat (first|(with_reducible first|refine ag.up ?_|refine fun (K:AK) hK=> ?_|(refine hK _ ?_;clear hK K))|simp only [go_sem]|with_reducible refine wA ?_|clear hK K)
   refine ab.one OV ?_
   repeat (first|(with_reducible first|refine ag.up ?_|refine fun (K:AK) hK=> ?_|(refine hK _ ?_;clear hK K))|simp only [go_sem]|with_reducible refine wA ?_|clear hK K)
   refine ab.one VT ?_
   repeat (first|(with_reducible first|refine ag.up ?_|refine fun (K:AK) hK=> ?_|(refine hK _ ?_;clear hK K))|simp only [go_sem]|with_reducible refine wA ?_|clear hK K)
   have hN:(bl E).length<=62:=by
    have:=nZ E E.length (Nat.le_refl _)
    rw [Xc] at this;rw [bl,(cW _).length_eq];omega
   let B:=ti (iV A) (fun s=>dx A s) (dF x) A.rows.length E
   let oX:Option aa:=some ⟨25,3,false,[[.v (.int .i64 x.kind), .v (.string x.label), .aH 3 (x.kids.map bC) x.kids.length]]⟩
   let oW:Option aa:=some ⟨66,2,false,[[.vp vA, .mp vG]]⟩
   let oM:PL->Option aa:=fun l=>some ⟨70,0,false,bB aX l⟩
   let oB:Option aa:=some ⟨70,1,false,[[.vec 2 0]]⟩
   refine lD (ι:=Nat) (fun i=>[(2, .ptr 0 0 3 0 0),(6, .ptr 1 0 2 0 0),(8, .ptr 3 0 1 0 0),(24, .aH 3 ((bl E).map bV) (bl E).length),(25, .v (.int .i64 ((bl E).length:Nat))),(26, .v (.int .i64 (i:Nat)))]) (fun i=>[oX,oW,oM (B i),oB]) (fun i=>(bl E).length - i) (fun i=>i<=(bl E).length) 0 (Nat.zero_le _) ?_ ?_
   ·simp only [oX,oW,oM,oB]
    (refine aq ?_ ?_ ?_<;>simp only [aD,WJ,WK,WW,WX,aW,aY,AV.v.injEq,Value.int.injEq,Value.bool.injEq,Value.string.injEq,AV.vec.injEq,AV.ptr.injEq,true_or,or_true,false_or,or_false,aa.mk.injEq,forall_eq_apply_imp_iff,forall_eq,forall_eq',go_sem])
    all_goals first|rfl|exact ⟨by rw [hwA,hwG];rfl,rfl,rfl⟩|trace_state
   ·rintro i hi K hK;simp only [aD,WJ,WK,WW,WX,go_sem]
    rcases Nat.lt_or_ge i (bl E).length with h|h
    ·have d1:decide ((i:Int)<((bl E).length:Int))=true:=decide_eq_true (by omega);have e1:=getD_map bV (bl E) i [] h;simp only [bV] at e1
     have eN:((bl E).map bV).length=(bl E).length:=by simp
     have ws:=aB (k:=i) (by omega);have hS:B (i+1)=_:=EN h;generalize (bl E)[i]=v at *;simp only [oX,oW,oM,oB]
     repeat ((fail_if_success (with_reducible refine LO (i:=8) ?_));first|(with_reducible first|refine ag.up ?_|refine fun (K:AK) hK=> ?_|(refine hK _ ?_;clear hK K))|simp only [go_sem,d1,e1,eN]|with_reducible refine wA ?_|clear hK K)
     refine pE ⟨aD 63 [(2, .ptr 0 0 3 0 0),(6, .ptr 1 0 2 0 0),(8, .ptr 3 0 1 0 0),(10, .ptr 4 0 3 0 0),(24, .aH 3 ((bl E).map bV) (bl E).length),(25, .v (.int .i64 ((bl E).length:Nat))),(26, .v (.int .i64 (i:Nat)))],[oX,oW,oM (if dF x=true then fm (B i) (v.1.1,v.1.1) v.2 else B i),oB,some ⟨37,3,false,[bV v]⟩], .no⟩ (by kernel_rfl) (by kernel_rfl) ?_ ?_
     ·cases hem:dF x
      ·rw [hem] at EM;simp only [oX,oW,oM,oB,Bool.false_eq_true,if_false]
       repeat (first|(with_reducible first|refine ag.up ?_|refine fun (K:AK) hK=> ?_|(refine hK _ ?_;clear hK K))|simp only [go_sem]|with_reducible refine wA ?_|clear hK K)
       refine ab.one EM ?_
       repeat (first|(with_reducible first|refine ag.up ?_|refine fun (K:AK) hK=> ?_|(refine hK _ ?_;clear hK K))|simp only [go_sem]|with_reducible refine wA ?_|clear hK K)
       simp only [bV];simp only [aD,WJ,WK,WW,WX,go_sem]
       (refine aq ?_ ?_ ?_<;>simp only [aD,WJ,WK,WW,WX,aW,aY,AV.v.injEq,Value.int.injEq,Value.bool.injEq,Value.string.injEq,AV.vec.injEq,AV.ptr.injEq,true_or,or_true,false_or,or_false,aa.mk.injEq,forall_eq_apply_imp_iff,forall_eq,forall_eq',go_sem])
       all_goals first|exact eW _ _|exact ⟨by rw [hwA,hwG];rfl,eW _ _⟩|trace_state
      ·rw [hem] at EM;simp only [oX,oW,oM,oB,if_true]
       repeat (first|(with_reducible first|refine ag.up ?_|refine fun (K:AK) hK=> ?_|(refine hK _ ?_;clear hK K))|simp only [go_sem]|with_reducible refine wA ?_|clear hK K)
       refine ab.one EM ?_
       repeat (first|(with_reducible first|refine ag.up ?_|refine fun (K:AK) hK=> ?_|(refine hK _ ?_;clear hK K))|simp only [go_sem]|with_reducible refine wA ?_|clear hK K)
       refine ab.KU (k:=(v.1.1,v.1.1)) rfl ?_
       repeat (first|(with_reducible first|refine ag.up ?_|refine fun (K:AK) hK=> ?_|(refine hK _ ?_;clear hK K))|simp only [go_sem]|with_reducible refine wA ?_|clear hK K)
       simp only [bV];simp only [aD,WJ,WK,WW,WX,go_sem]
       (refine aq ?_ ?_ ?_<;>simp only [aD,WJ,WK,WW,WX,aW,aY,AV.v.injEq,Value.int.injEq,Value.bool.injEq,Value.string.injEq,AV.vec.injEq,AV.ptr.injEq,true_or,or_true,false_or,or_false,aa.mk.injEq,forall_eq_apply_imp_iff,forall_eq,forall_eq',go_sem])
       all_goals first|exact eW _ _|exact ⟨by rw [hwA,hwG];rfl,eW _ _⟩|trace_state
     ·generalize (if dF x=true then fm (B i) (v.1.1,v.1.1) v.2 else B i)=b1 at *;simp only [oX,oW,oM,oB,bV];simp only [aD,WJ,WK,WW,WX,go_sem]
      repeat (first|(with_reducible first|refine ag.up ?_|refine fun (K:AK) hK=> ?_|(refine hK _ ?_;clear hK K))|simp only [go_sem]|with_reducible refine wA ?_|clear hK K)
      refine ab.one (RC v.1.1) ?_
      repeat (first|(with_reducible first|refine ag.up ?_|refine fun (K:AK) hK=> ?_|(refine hK _ ?_;clear hK K))|simp only [go_sem]|with_reducible refine wA ?_|clear hK K)
      refine mz (RS v.1.1) 27 (fun k=>[oX,oW,oM (A6 (iV A) (fun s=>dx A s) A.rows.length E v.1.1 b1 k),oB,some ⟨37,3,false,[bV v]⟩]) (fun k=>k<=(sP (iV A) A.rows.length E v.1.1).length) (Nat.zero_le _) ?_ ?_ ?_ (by kernel_rfl) (by kernel_rfl) ?_ ?_ ?_
      ·repeat (first|(with_reducible first|refine ag.up ?_|refine fun (K:AK) hK=> ?_|(refine hK _ ?_;clear hK K))|simp only [go_sem]|with_reducible refine wA ?_|clear hK K)
      ·simp only [bp,AV.wf,hwA,hwG,WT]
      ·simp only [oX,oW,oM,oB,bV]
       (refine aq ?_ ?_ ?_<;>simp only [aD,WJ,WK,WW,WX,aW,aY,AV.v.injEq,Value.int.injEq,Value.bool.injEq,Value.string.injEq,AV.vec.injEq,AV.ptr.injEq,true_or,or_true,false_or,or_false,aa.mk.injEq,forall_eq_apply_imp_iff,forall_eq,forall_eq',go_sem])
       all_goals first|exact ⟨by rw [hwA,hwG];rfl,rfl,eW _ _⟩|trace_state
      ·intro y hy;obtain ⟨p,_,rfl⟩:=List.mem_map.1 hy
       rfl
      ·intro k y hk hy
       have hk2:k<(sP (iV A) A.rows.length E v.1.1).length:=by
        have:=(List.getElem?_eq_some_iff.1 hy).1
        simpa using this
       have hy2:y=DW (sP (iV A) A.rows.length E v.1.1)[k]:=by
        rw [List.getElem?_map,List.getElem?_eq_getElem hk2] at hy;exact (Option.some.inj hy).symm
       have hP:=EL (tk:=fun s=>dx A s) (b:=b1) hk2;clear hy;subst hy2;generalize (sP (iV A) A.rows.length E v.1.1)[k]=p at *;have T:=TK (p.1.2:Nat);simp only [oX,oW,oM,oB,bV,DW,bP]
       repeat (first|(with_reducible first|refine ag.up ?_|refine fun (K:AK) hK=> ?_|(refine hK _ ?_;clear hK K))|simp only [go_sem]|with_reducible refine wA ?_|clear hK K)
       refine ab.one T ?_
       cases htk:dx A (p.1.2:Nat)
       ·simp only [htk,Bool.false_eq_true,if_false] at hP
        repeat (first|(with_reducible first|refine ag.up ?_|refine fun (K:AK) hK=> ?_|(refine hK _ ?_;clear hK K))|simp only [go_sem,htk]|with_reducible refine wA ?_|clear hK K)
        rw [hP]
        (refine aq ?_ ?_ ?_<;>simp only [aD,WJ,WK,WW,WX,aW,aY,AV.v.injEq,Value.int.injEq,Value.bool.injEq,Value.string.injEq,AV.vec.injEq,AV.ptr.injEq,true_or,or_true,false_or,or_false,aa.mk.injEq,forall_eq_apply_imp_iff,forall_eq,forall_eq',go_sem])
        all_goals first|exact ⟨by rw [hwA,hwG];rfl,eW _ _⟩|trace_state
       ·simp only [htk,if_true] at hP
        repeat (first|(with_reducible first|refine ag.up ?_|refine fun (K:AK) hK=> ?_|(refine hK _ ?_;clear hK K))|simp only [go_sem,htk]|with_reducible refine wA ?_|clear hK K)
        refine ab.KU (k:=(v.1.1,p.1.1)) rfl ?_
        repeat (first|(with_reducible first|refine ag.up ?_|refine fun (K:AK) hK=> ?_|(refine hK _ ?_;clear hK K))|simp only [go_sem]|with_reducible refine wA ?_|clear hK K)
        rw [hP]
        (refine aq ?_ ?_ ?_<;>simp only [aD,WJ,WK,WW,WX,aW,aY,AV.v.injEq,Value.int.injEq,Value.bool.injEq,Value.string.injEq,AV.vec.injEq,AV.ptr.injEq,true_or,or_true,false_or,or_false,aa.mk.injEq,forall_eq_apply_imp_iff,forall_eq,forall_eq',go_sem])
        all_goals first|exact ⟨by rw [hwA,hwG];rfl,eW _ _⟩|trace_state
      ·intro _
       have eK:((sP (iV A) A.rows.length E v.1.1).map DW).length=(sP (iV A) A.rows.length E v.1.1).length:=by simp
       rw [eK, <- hS];simp only [oX,oW,oM,oB]
       repeat (first|(with_reducible first|refine ag.up ?_|refine fun (K:AK) hK=> ?_|(refine hK _ ?_;clear hK K))|simp only [go_sem,ws]|with_reducible refine wA ?_|clear hK K)
       refine aJ.mk (i+1) h (show (bl E).length - (i+1)<(bl E).length - i by omega) ?_;simp only [oX,oW,oM,oB];simp only [aD,WJ,WK,WW,WX,go_sem]
       (refine aq ?_ ?_ ?_<;>simp only [aD,WJ,WK,WW,WX,aW,aY,AV.v.injEq,Value.int.injEq,Value.bool.injEq,Value.string.injEq,AV.vec.injEq,AV.ptr.injEq,true_or,or_true,false_or,or_false,aa.mk.injEq,forall_eq_apply_imp_iff,forall_eq,forall_eq',go_sem])
       all_goals first|exact ⟨by rw [hwA,hwG];rfl,eW _ _⟩|trace_state
    ·have e0:i=(bl E).length:=by omega
     have d1:decide (((bl E).length:Int)<((bl E).length:Int))=false:=decide_eq_false (by omega);simp only [e0,oX,oW,oM,oB]
     repeat ((fail_if_success (with_reducible refine bL (i:=16) ?_));first|(with_reducible first|refine ag.up ?_|refine fun (K:AK) hK=> ?_|(refine hK _ ?_;clear hK K))|simp only [go_sem,d1]|with_reducible refine wA ?_|clear hK K)
     have eB:B (bl E).length=fe ((bl E).flatMap (jq (iV A) (fun s=>dx A s) (dF x) A.rows.length E)) []:=by
      show ti _ _ _ _ _ _=_;rw [ti,Xc]
     have PR:=Cr (B (bl E).length) (by rw [eB];exact (il _ [] List.nodup_nil).1) (by have:=yB (tk:=fun s=>dx A s) (em:=dF x) hst (rk he) hl ok.max (bl E).length;exact Nat.le_trans this (by omega))
     have eP:b8 (B (bl E).length)=mN x A E:=by rw [eB];rfl
     rw [eP] at PR;refine bU (uN (k:=3) (i:=0) (j:=0) (id:=2) (by decide) rfl (by decide) rfl rfl rfl rfl rfl) (by kernel_rfl) ?_;simp only [List.set_cons_zero,List.set_cons_succ]
     repeat (first|(with_reducible first|refine ag.up ?_|refine fun (K:AK) hK=> ?_|(refine hK _ ?_;clear hK K))|simp only [go_sem]|with_reducible refine wA ?_|clear hK K)
     refine ab.one PR ?_
     repeat (first|(with_reducible first|refine ag.up ?_|refine fun (K:AK) hK=> ?_|(refine hK _ ?_;clear hK K))|simp only [go_sem]|with_reducible refine wA ?_|clear hK K)
     refine jb.of 40 rfl ?_;simp only [go_sem,fB]
     all_goals trace_state
  ·rw [if_neg he];rw [pN,if_neg he] at OV
   have z0:(e9 E !=0)=true:=by simp [he]
   rw [aN] at OV ⊢
   (refine ah.enter Tryz.func9 rfl (by kernel_rfl) (by kernel_rfl) rfl (by first|rfl|(simp only [go_sem,WT,Wg,Wn])) (by first|rfl|(simp only [go_sem,WT,Wg,Wn])) ?_;simp only [Tryz.ntmps9,Tryz.results9,U9,U3,Nat.reduceAdd,Nat.reduceSub,WW,WX,WY,WZ])
   repeat (first|(with_reducible first|refine ag.up ?_|refine fun (K:AK) hK=> ?_|(refine hK _ ?_;clear hK K))|simp only [go_sem]|with_reducible refine wA ?_|clear hK K)
   refine ab.one OV ?_
   repeat (first|(with_reducible first|refine ag.up ?_|refine fun (K:AK) hK=> ?_|(refine hK _ ?_;clear hK K))|simp only [go_sem,z0]|with_reducible refine wA ?_|clear hK K)
   (refine jb.of 40 rfl ?_;simp only [go_sem])
end
section
open Go.RowKit Go.Shelf
section
open Go.Maps Go.Sort Go.WideElems
def Ut (r:bn):List (Lit×DataW Unit):=r.map (fun p=>(.string p.1.data.toList, .lit (.int .i64 (p.2:Nat))))
def TC (r s:bn):Bool:=decide (r.length=s.length)&&r.all (fun p=>look s p.1==some p.2)
end
structure Ud (A:mW):Prop extends AOk A where
 nd:A.af.Nodup
 sz: ∀l∈A.af,l.size<=20
 Uu:A.af.length<=24
theorem uy: ∀ {l m:List ByteArray},mZ l->mZ m->(∀s,s∈l↔s∈m)->l=m
 | [],[],_,_,_=>rfl
 | [],b :: m,_,_,h=>absurd ((h b).2 (by simp)) (by simp)
 | a :: l,[],_,_,h=>absurd ((h a).1 (by simp)) (by simp)
 | a :: l,b :: m,h1,h2,h=>by
  rw [mZ,List.pairwise_cons] at h1 h2;have irr: ∀x:List UInt8, ¬x<x:=fun x=>List.lt_irrefl _
  have hab:a=b:=by
   rcases Wr.1 ((h a).1 (by simp)) with e|ha
   ·exact e
   ·rcases Wr.1 ((h b).2 (by simp)) with e|hb
    ·exact e.symm
    ·exact absurd (List.lt_trans (h1.1 b hb) (h2.1 a ha)) (irr _)
  subst hab
  refine congrArg _ (uy h1.2 h2.2 fun s=>⟨fun hs=> ?_,fun hs=> ?_⟩)
  ·rcases Wr.1 ((h s).1 (V2 _ hs)) with e|q
   ·subst e;exact absurd (h1.1 _ hs) (irr _)
   ·exact q
  ·rcases Wr.1 ((h s).2 (V2 _ hs)) with e|q
   ·subst e;exact absurd (h2.1 _ hs) (irr _)
   ·exact q
theorem Km {x:Ex} {l:List ByteArray} (h:mZ l) (hm: ∀s,s∈bj x↔s∈l):ck x=l:=uy (pd x) h fun s=>kV.trans (hm s)
def ta:ByteArray:=⟨#[97]⟩
def tb:ByteArray:=⟨#[98]⟩
def R3 (s:ByteArray):Ex:= .mk 1 s []
mutual
def sX:Ex->Nat->Nat
 | .mk _ _ l,deep=>if 60<deep then 301 else sL l (deep+1) 1
def sL:List Ex->Nat->Nat->Nat
 | [],_,n=>n
 | x :: xs,d,n=>if n<=300 then sL xs d (n+sX x d) else n
end
mutual
theorem Nj: ∀(x:Ex) (d:Nat),d<=61->1<=sX x d∧sX x d<=301+300 * (61 - d)
 | .mk _ _ l,d,h=>by
  rw [sX]
  split
  ·omega
  ·have:=Ik l (d+1) 1 (by omega);omega
theorem Ik: ∀(l:List Ex) (d n:Nat),d<=61->n<=sL l d n∧sL l d n<=max n (601+300 * (61 - d))
 | [],d,n,h=>by rw [sL];omega
 | x :: xs,d,n,h=>by
  rw [sL]
  split
  ·have h1:=Nj x d h;have h2:=Ik xs d (n+sX x d) h;omega
  ·omega
end
def Uw (a b:Ex):Nat:=if sX a 0<=300 then sX a 0+sX b 0 else sX a 0
def R4 (w:List ByteArray) (a b:Ex):Bool:=decide (300<Uw a b)||decide (30<w.length)
noncomputable def partAt (p q:List ByteArray->Bool) (w:List ByteArray) (n:Nat):Bool:=(List.range n).any (fun k=>p (w.take k)&&q (w.drop k))
section
variable {a b:Ex} (ha:aI a=true) (hb:aI b=true) (na:(az a).length<=11) (nb:(az b).length<=11)
include ha hb na nb
omit hb nb
end
theorem BU {x:Ex} {A:mW} (h:dE x (ck x) = .inl A):aI x=true∧A.af=ck x∧Fp x A∧Ud A:=by
 have hr:aI x=true:=by
  cases hr:aI x
  ·rw [dE,hr] at h;simp at h
  ·rfl
 have L:=DD hr (nE x) (Cg hr) (fun l hl=>kV.2 hl) h
 have e:A.af=ck x:=by
  rw [dE,if_pos hr] at h
  split at h
  ·split at h
   ·cases h
   ·simp only [Sum.inl.injEq] at h;rw [<-h];rfl
  ·cases h
 exact ⟨hr,e,L,{ L.toAOk with nd:=by rw [e];exact nE x,sz:=by rw [e];exact Ch hr,Uu:=by rw [e];exact AH hr }⟩
theorem LL {s:ByteArray} (h:s.size<=100):tg s:=by unfold tg;omega
mutual
def Ai:Ex->List AV
 | .mk k s l=>[.v (.int .i64 k), .v (.string s),if l.isEmpty then .v (.slice none 0 0) else .aH 3 (xI l) l.length]
def xI:List Ex->List (List AV)
 | []=>[]
 | x :: xs=>Ai x :: xI xs
end
theorem xJ: ∀l:List Ex,xI l=l.map Ai
 | []=>rfl
 | x :: xs=>by rw [xI,xJ xs];rfl
theorem J3 (x:Ex):Dh (Ai x) (bC x):=by
 induction x using Ex.ind with
 | h k s l ih=>
  rw [Ai,aN];refine .cons (.refl _) (.cons (.refl _) (.cons ?_ .nil))
  cases l with
  | nil=>exact .nil 3
  | cons y l=>
   have:=Le.rows (z:=3) (f:=Ai) (g:=bC) (xs:=y :: l) (more:=[]) ih
   rw [List.append_nil] at this;rw [xJ];exact this
def tx:ByteArray:=⟨#[120]⟩
def tc:ByteArray:=⟨#[99]⟩
def B6:Ex:= .mk 4 ⟨#[]⟩ [R3 tx]
def Tv:mW:=⟨[[(tx,0)]],[true],[tx]⟩
def Gq:List a8:=[⟨ta,tb,tx,5,[]⟩,⟨tb,tc,tx,3,[]⟩]
def QL:PL:=[((ta,ta),5),((ta,tb),5),((ta,tc),3),((tb,tb),5),((tb,tc),3),((tc,tc),3)]
theorem O8:ck B6=[tx]:=Km (by simp [mZ]) (fun s=>by rw [show bj B6=[tx] by kernel_rfl])
theorem OJ:dE B6 (ck B6) = .inl Tv:=by rw [O8];kernel_rfl
theorem KL:fb B6 Gq=0:=by rw [fb,OJ];kernel_rfl
theorem MZ:fc B6 Gq=QL:=by
 rw [fc,OJ];show (if e9 Gq=0 then mN B6 Tv Gq else [])=QL;rw [if_pos (by kernel_rfl)]
 kernel_rfl
theorem ik (x:Ex): ∀A,dE x (ck x) = .inl A->AOk A:=fun A h=>(BU h).2.2.1.toAOk
def NR (a b l:ByteArray) (t:Int):List AV:=[.v (.string a), .v (.string b), .v (.string l), .v (.int .i64 t), .v (.slice none 0 0)]
theorem Gp (a b l:ByteArray) (t:Int):Dh (NR a b l t) (aU ⟨a,b,l,t,[]⟩):= .cons (.refl _) (.cons (.refl _) (.cons (.refl _) (.cons (.refl _) (.cons (.nil 4) .nil))))
theorem MB:Le (.aH 5 [NR ta tb tx 5,NR tb tc tx 3] 2) (.aH 5 (Gq.map aU) Gq.length):=by
 refine .aH _ _ _ _ (by simp [Gq]) (by simp [Gq]) (fun i r r' h1 h2=> ?_) (fun i j r r' c c' h1 h2 h3 h4=> ?_)
 ·match i,h1,h2 with
  | 0,h1,h2=>cases h1;cases h2;rfl
  | 1,h1,h2=>cases h1;cases h2;rfl
  | i+2,h1,h2=>simp at h1
 ·match i,h1,h2 with
  | 0,h1,h2=>cases h1;cases h2;exact (Gp _ _ _ _).2 j c c' h3 h4
  | 1,h1,h2=>cases h1;cases h2;exact (Gp _ _ _ _).2 j c c' h3 h4
  | i+2,h1,h2=>simp at h1
theorem DE:ah Tryz.prog 7 [] (.v (.bool true)):=by
 have oS:B6.ok:=by simp only [B6,R3,Ex.ok,pH,and_true];exact ⟨LL (by decide),LL (by decide)⟩
 have oE: ∀e∈Gq,qA e:=fun e he=>by
  simp only [Gq,Wr,List.not_mem_nil,or_false] at he
  rcases he with rfl|rfl<;>exact ⟨by show _<=maxLen;unfold maxLen;decide,by show _<=maxLen;unfold maxLen;decide,by show _<=maxLen;unfold maxLen;decide,fun p hp=>(by cases hp),by simp⟩
 have PS:=(uX B6 Gq oS oE (by decide) (ik B6)).le (args':=[.agg (Ai B6), .aH 5 [NR ta tb tx 5,NR tb tc tx 3] 2]) rfl (.cons (J3 B6).agg (.cons MB .nil));rw [um,KL,if_pos rfl,MZ] at PS;have L1:=Eo tx;have S1:=yS ta tb tx 5;have S2:=yS tb tc tx 3;have O1:=MR 4 [[.v (.int .i64 1), .v (.string tx), .v (.slice none 0 0)]] 1 rfl;have SM:=Im QL (by decide);simp only [B6,R3,Ai,xI,List.isEmpty_nil,List.isEmpty_cons,U9,U3,Nat.reduceAdd,if_true,Bool.false_eq_true,if_false,NR,ta,tb,tc,tx,QL,bV,List.map_cons,List.map_nil] at PS L1 S1 S2 O1 SM
 (refine ah.enter Tryz.func7 rfl (by kernel_rfl) (by kernel_rfl) rfl (by first|rfl|(simp only [go_sem,WT,Wg,Wn])) (by first|rfl|(simp only [go_sem,WT,Wg,Wn])) ?_;simp only [Tryz.ntmps7,Tryz.results7,U9,U3,Nat.reduceAdd,Nat.reduceSub,List.replicate_succ,List.replicate_zero,List.cons_append,List.nil_append])
 repeat (first|(with_reducible first|refine ag.up ?_|refine fun (K:AK) hK=> ?_|(refine hK _ ?_;clear hK K))|simp only [go_sem]|with_reducible refine wA ?_|clear hK K)
 refine ab.one L1 ?_
 repeat (first|(with_reducible first|refine ag.up ?_|refine fun (K:AK) hK=> ?_|(refine hK _ ?_;clear hK K))|simp only [go_sem]|with_reducible refine wA ?_|clear hK K)
 refine ab.D6 O1 rfl (by simp only [go_sem,Nat.reduceLT,Nat.reduceLeDiff,Nat.reduceEqDiff,XB,XE,and_self]) ?_
 repeat (first|(with_reducible first|refine ag.up ?_|refine fun (K:AK) hK=> ?_|(refine hK _ ?_;clear hK K))|simp only [go_sem]|with_reducible refine wA ?_|clear hK K)
 refine ab.one S1 ?_
 repeat (first|(with_reducible first|refine ag.up ?_|refine fun (K:AK) hK=> ?_|(refine hK _ ?_;clear hK K))|simp only [go_sem]|with_reducible refine wA ?_|clear hK K)
 refine ab.one S2 ?_
 repeat (first|(with_reducible first|refine ag.up ?_|refine fun (K:AK) hK=> ?_|(refine hK _ ?_;clear hK K))|simp only [go_sem]|with_reducible refine wA ?_|clear hK K)
 refine ab.D6 PS rfl (by simp only [go_sem,Nat.reduceLT,Nat.reduceLeDiff,Nat.reduceEqDiff,XB,XE,and_self]) ?_
 repeat (first|(with_reducible first|refine ag.up ?_|refine fun (K:AK) hK=> ?_|(refine hK _ ?_;clear hK K))|simp only [go_sem]|with_reducible refine wA ?_|clear hK K)
 refine ab.D6 SM rfl (by simp only [go_sem,Nat.reduceLT,Nat.reduceLeDiff,Nat.reduceEqDiff,XB,XE,and_self]) ?_
 repeat (first|(with_reducible first|refine ag.up ?_|refine fun (K:AK) hK=> ?_|(refine hK _ ?_;clear hK K))|simp only [go_sem]|with_reducible refine wA ?_|clear hK K)
open Go.ChangeShapes Go.WideShapes Go.ChangeAt Go.RowKit
section
variable {H:Type} {enc:TypeId×Value->H} {w:World}
instance:Inhabited uY:=⟨⟨⟨#[]⟩,⟨0,0,⟨#[]⟩⟩⟩⟩
instance:Inhabited a8:=⟨⟨⟨#[]⟩,⟨#[]⟩,⟨#[]⟩,0,[]⟩⟩
def uY.cells (p:uY):List Value:=[.string p.key, .int .i64 p.val.kind, .int .i64 p.val.num, .string p.val.text]
def BK (p:uY) (cs:List Value):Prop:=cs=p.cells
def uY.ok (p:uY):Prop:=tg p.key∧p.val.ok
def zC (w:World) (e:a8) (cs:List Value):Prop:= ∃sv,dV w 4 BK e.props sv∧cs=[.string e.aD, .string e.to, .string e.label, .int .i64 e.time,sv]
structure a8.ok (e:a8):Prop where
 aD:tg e.aD
 to:tg e.to
 label:tg e.label
 props: ∀p∈e.props,p.ok
 len:e.props.length<=140737488355328
theorem a8.ok.LR {e:a8} (h:e.ok) (hl:e.props.length<=16777216):qA e:=by
 have h1:=h.aD;have h2:=h.to;have h3:=h.label;unfold tg at h1 h2 h3;refine ⟨by unfold maxLen;omega,by unfold maxLen;omega,by unfold maxLen;omega,fun p hp=> ?_,hl⟩;obtain ⟨k1,k2⟩:=h.props p hp;unfold zE.ok at k2;unfold tg at k1 k2;exact ⟨by unfold maxLen;omega,by unfold maxLen;omega⟩
theorem Sd:E3 Tryz.prog 173=some [(9,0,1),(171,1,3)]:=by kernel_rfl
theorem OM:Tryz.prog.cellsOf 173=4:=by kernel_rfl
theorem Pn:E3 Tryz.prog 35=some [(9,0,1),(9,1,1),(9,2,1),(3,3,1),(33,4,1)]:=by kernel_rfl
theorem Mw:Tryz.prog.cellsOf 35=5:=by kernel_rfl
theorem Qs:Tryz.prog.underlying 33=some (.slice 173):=by kernel_rfl
theorem LS:Tryz.prog.underlying 26=some (.slice 35):=by kernel_rfl
theorem RT:0<Tryz.prog.bytesOf 173:=of_decide_eq_true (by kernel_rfl)
theorem RR:0<Tryz.prog.bytesOf 35:=of_decide_eq_true (by kernel_rfl)
theorem Nw {n:Nat} {cs:List Value} (h:Td enc Tryz.prog w n 173 cs): ∃x:uY,BK x cs∧x.ok:=by
 obtain ⟨m,_,hl,hf⟩:=ia Sd h;rw [OM] at hl
 match cs,hl with
 | [a,b,c,d],_=>
  obtain ⟨s,e0,h0⟩:=po E7 (hf 0 _ _ _ rfl);obtain ⟨⟨v1,v2,v3⟩,e1,h1⟩:=Nx (hf 1 _ _ _ rfl)
  obtain rfl:a=_:=by simpa using e0
  simp only [List.drop_succ_cons,List.drop_zero,List.take_succ_cons,List.take_zero,zE.cells,List.cons.injEq,and_true] at e1;obtain ⟨rfl,rfl,rfl⟩:=e1;exact ⟨⟨s,v1,v2,v3⟩,rfl,h0,h1⟩
theorem II {n:Nat} {cs:List Value} (h:Td enc Tryz.prog w n 35 cs): ∃x:a8,zC w x cs∧x.ok:=by
 obtain ⟨m,_,hl,hf⟩:=ia Pn h;rw [Mw] at hl
 match cs,hl with
 | [a,b,c,d,e],_=>
  obtain ⟨s0,e0,h0⟩:=po E7 (hf 0 _ _ _ rfl);obtain ⟨s1,e1,h1⟩:=po E7 (hf 1 _ _ _ rfl);obtain ⟨s2,e2,h2⟩:=po E7 (hf 2 _ _ _ rfl);obtain ⟨k,e3,_⟩:=sF Qq (hf 3 _ _ _ rfl);obtain ⟨ps,h4,o4,l4⟩:=wu Qs OM (by omega) RT (hf 4 _ _ _ rfl) (rd:=BK) (okx:=uY.ok) (fun m' cs' hm hx=>Nw hx);cases e0;cases e1;cases e2;cases e3;exact ⟨⟨s0,s1,s2,k,ps⟩,⟨e,h4,rfl⟩,h0,h1,h2,o4,l4⟩
theorem IM {a:Option Addr} {len cap:Nat} {d:DataW H} {ps:List MemPlace} (h:DataW.Trod enc Tryz.prog w 0 (fun _=>true) true 26 (.slice a len cap) d ps) (hw: ∀k∈d.weights Tryz.prog 26,k<=reachBytes) :
  ∃(l:List a8),dV w 5 (zC w) l (.slice a len cap)∧(∀s,s∈l->s.ok)∧l.length<=140737488355328:=by
 obtain ⟨n,h⟩:=h;have ht:Td enc Tryz.prog w n 26 [.slice a len cap]:=⟨_,h,hw⟩;exact wu LS Mw (by omega) RR ht (rd:=zC w) (okx:=a8.ok) (fun m' cs' hm hx=>II hx)
theorem IL {v:Value} {d:DataW H} {ps:List MemPlace} (h:DataW.Trod enc Tryz.prog w 0 (fun _=>true) true 35 v d ps) (hw: ∀k∈d.weights Tryz.prog 35,k<=reachBytes) :
  ∃(x:a8) (cx:List Value),v = .agg cx.toArray∧zC w x cx∧x.ok:=by
 obtain ⟨n,h⟩:=h;have ht:Td enc Tryz.prog w n 35 v.cells.toList:=⟨_,h,hw⟩;obtain ⟨m,_,hl,_⟩:=ia Pn ht;rw [Mw] at hl;obtain ⟨x,h1,h2⟩:=II ht
 cases v with
 | agg cs=>exact ⟨x,cs.toList,by simp,h1,h2⟩
 | _=>simp [Value.cells] at hl
variable {D:Nat->Prop} {nu:Nat->Nat->Value}
theorem KR (hD: ∀b,b<w.heap.size->D b) {l:List uY} {v:Value} (h:dV w 4 BK l v):RA D nu [] w (.aH 4 (l.map nA) l.length) v:=
 RA.qn hD (by omega) h (fun _=>rfl) (fun x _ cs hc=>by subst hc;exact ⟨lk x.cells,by simp [uY.cells,Value.oneCell']⟩)
theorem LD (hD: ∀b,b<w.heap.size->D b) (e:a8) (cs:List Value) (h:zC w e cs):Jk D nu [] w (aU e) cs∧ ∀y∈cs,y.oneCell'=true:=by
 obtain ⟨sv,h,rfl⟩:=h;have hs:=KR (nu:=nu) hD h;have ho:=yF h
 refine ⟨⟨rfl,fun j c y h1 h2=> ?_⟩,fun y hy=>by
  simp only [Wr,List.not_mem_nil,or_false] at hy
  rcases hy with rfl|rfl|rfl|rfl|rfl<;>first|rfl|exact ho⟩
 match j,h1,h2 with
 | 0,h1,h2=>cases h1;cases h2;exact .v _
 | 1,h1,h2=>cases h1;cases h2;exact .v _
 | 2,h1,h2=>cases h1;cases h2;exact .v _
 | 3,h1,h2=>cases h1;cases h2;exact .v _
 | 4,h1,h2=>cases h1;cases h2;exact hs
 | j+5,h1,h2=>simp [aU] at h1
theorem MC (hD: ∀b,b<w.heap.size->D b) {l:List a8} {v:Value} (h:dV w 5 (zC w) l v):RA D nu [] w (.aH 5 (l.map aU) l.length) v:=
 RA.qn hD (by omega) h (fun _=>rfl) (fun x _ cs hc=>LD hD x cs hc)
theorem Gn (hD: ∀b,b<w.heap.size->D b) {x:a8} {cx:List Value} (h:zC w x cx):RA D nu [] w (.agg (aU x)) (.agg cx.toArray):=by
 obtain ⟨h1,h2⟩:=LD (nu:=nu) hD x cx h;exact .agg _ _ (by simpa using h1.1) (fun i c y hc hy=>h1.2 i c y hc (by simpa using hy)) (fun i y hy=>h2 y (List.mem_of_getElem? (by simpa using hy)))
end
def lf (x n:Int):Int:=if n<1 then 0 else if x.tmod n<0 then x.tmod n+n else x.tmod n
theorem pQ {x n:Int} (h:1<=n):0<=lf x n∧lf x n<n:=by
 have h1: ¬n<1:=by omega
 have h2:=Int.tmod_lt_of_pos x (show 0<n by omega)
 have h3: -n<x.tmod n:=by
  rcases Int.le_total 0 x with h|h
  ·have:=Int.tmod_nonneg n h;omega
  ·have:=Int.tmod_lt_of_pos (-x) (show 0<n by omega)
   rw [Int.neg_tmod] at this;omega
 unfold lf;rw [if_neg h1]
 split<;>omega
theorem M0 (x n:Int) (hn:n<=1000000):ah Tryz.prog 23 [.v (.int .i64 x), .v (.int .i64 n)] (.v (.int .i64 (lf x n))):=by
 (refine ah.enter Tryz.func23 rfl (by kernel_rfl) (by kernel_rfl) rfl (by first|rfl|(simp only [go_sem,WT,Wg,Wn])) (by first|rfl|(simp only [go_sem,WT,Wg,Wn])) ?_;simp only [Tryz.ntmps23,Tryz.results23,U9,U3,Nat.reduceAdd,Nat.reduceSub,List.replicate_succ,List.replicate_zero,List.cons_append,List.nil_append])
 repeat (first|(with_reducible first|refine ag.up ?_|refine fun (K:AK) hK=> ?_|(refine hK _ ?_;clear hK K))|simp only [go_sem]|with_reducible refine wA ?_|clear hK K)
 refine eJ.part (fun h=> ?_) (fun h=> ?_)
 ·repeat (first|(with_reducible first|refine ag.up ?_|refine fun (K:AK) hK=> ?_|(refine hK _ ?_;clear hK K))|simp only [go_sem]|with_reducible refine wA ?_|clear hK K)
  refine congrArg (Value.int .i64) ?_
  have h':n<1:=by simpa using h
  simp [lf,h']
 ·have h': ¬n<1:=by simpa using h
  have h0:n≠0:=by omega
  have hr:=pQ (x:=x) (n:=n) (by omega)
  repeat (first|(with_reducible first|refine ag.up ?_|refine fun (K:AK) hK=> ?_|(refine hK _ ?_;clear hK K))|simp only [go_sem,h0]|with_reducible refine wA ?_|clear hK K)
  refine eJ.part (fun h2=> ?_) (fun h2=> ?_)
  ·have h2':x.tmod n<0:=by simpa using h2
   have hp:lf x n=x.tmod n+n:=by simp [lf,h',h2']
   have eW:=cF (n:=x.tmod n+n) (by omega) (by omega)
   repeat (first|(with_reducible first|refine ag.up ?_|refine fun (K:AK) hK=> ?_|(refine hK _ ?_;clear hK K))|simp only [go_sem,eW]|with_reducible refine wA ?_|clear hK K)
   rw [hp]
  ·have h2': ¬x.tmod n<0:=by simpa using h2
   have hp:lf x n=x.tmod n:=by simp [lf,h',h2']
   repeat (first|(with_reducible first|refine ag.up ?_|refine fun (K:AK) hK=> ?_|(refine hK _ ?_;clear hK K))|simp only [go_sem]|with_reducible refine wA ?_|clear hK K)
   rw [hp]
end
theorem Ib {L:PL} (h:fG L) {i:Nat} (hi:i+1<L.length):zm (L[i]'(by omega)).1 L[i+1].1:=by
 rw [fG,List.pairwise_iff_getElem] at h;exact h i (i+1) (by omega) hi (by omega)
def gD (i:Nat) (a:ByteArray) (E:List a8):List a8:=E.filter (fun e=>decide (i=0)||decide (e.aD=a))
theorem Ew (i:Nat) (a:ByteArray) (E:List a8) {k:Nat} (h:k<E.length):gD i a (E.take (k+1))=gD i a (E.take k)++if (decide (i=0)||decide (E[k].aD=a))=true then [E[k]] else []:=by
 rw [gD,gD,List.take_succ_eq_append_getElem h,List.filter_append]
 congr 1
 by_cases hb:(decide (i=0)||decide (E[k].aD=a))=true
 ·rw [if_pos hb];exact List.filter_cons_of_pos (p:=fun e:a8=>decide (i=0)||decide (e.aD=a)) hb
 ·rw [if_neg hb];exact List.filter_cons_of_neg (p:=fun e:a8=>decide (i=0)||decide (e.aD=a)) hb
structure WS where
 i:Nat
 w:List ByteArray
 f:ByteArray
 a:ByteArray
 t:Int
def WS.ok (E:List a8) (n:Nat) (s:WS):Prop:=s.i<=n∧s.w.length=s.i∧(s.i=0->s.w=[]∧s.t=xu)∧(0<s.i->I4 E s.f s.a s.w s.t)
def WS.next (s:WS) (e:a8):WS:=⟨s.i+1,s.w++[e.label],if s.i=0 then e.aD else s.f,e.to,min s.t e.time⟩
theorem WS.KE {E:List a8} {n:Nat} {s:WS} (h:s.ok E n) (hi:s.i<n) {e:a8} (he:e∈gD s.i s.a E):(s.next e).ok E n∧I4 E (s.next e).f (s.next e).a (s.next e).w (s.next e).t:=by
 obtain ⟨h1,h2,h3,h4⟩:=h;obtain ⟨k1,k2⟩:=List.mem_filter.1 he
 have hw:I4 E (s.next e).f (s.next e).a (s.next e).w (s.next e).t:=by
  simp only [WS.next]
  by_cases h0:s.i=0
  ·obtain ⟨q1,q2⟩:=h3 h0;rw [if_pos h0,q1,q2];exact .one e k1 rfl
  ·rw [if_neg h0];simp only [h0,decide_false,Ya,decide_eq_true_eq] at k2
   have:=h4 (by omega)
   rw [<-k2] at this;exact .more e s.w s.t this k1
 exact ⟨⟨by simp only [WS.next];omega,by simp [WS.next,h2],fun h=>by simp [WS.next] at h,fun _=>hw⟩,hw⟩
def AT (x:Ex):Option aa:=some ⟨25,3,false,[[.v (.int .i64 x.kind), .v (.string x.label), .aH 3 (x.kids.map bC) x.kids.length]]⟩
def AQ (e:a8):Option aa:=some ⟨35,5,false,[aU e]⟩
theorem aK.D6 {P:Program} {f:FuncId} {args args':List AV} {o o':List (Option aa)} {r:AV} {p:Prop} (h:ah P f args' r) (hz:l9 o args=some (p,args',o')) (hp:p):aK P f args o r o':=by
 refine ⟨h.2.1,fun D nu w vargs hro hra=> ?_⟩;obtain ⟨k1,k2,k3,k4⟩:=lH args hz hp hro
 refine (jK h k2 ⟨by rw [<-k3];exact hra.len,fun i c x q1 q2=> ?_⟩).mono ?_
 ·have hi:i<args.length:=by rw [k3];exact (List.getElem?_eq_some_iff.1 q1).1
  exact k4 i _ c x (Vi hi) q1 (hra.at' i _ x (Vi hi) q2)
 ·rintro e w' ⟨v,rfl,hb,hr⟩;exact ⟨v,nu,o',r,rfl,k1.trans (aw hb),k2.below hb,hr,rfl,rfl⟩
theorem rM (x:Ex) (E:List a8) (ns:List Int) (m:a8) (hx:x.ok) (hE: ∀e∈E,e.ok) (hl:E.length<=140737488355328) (hm:m.ok):ah Tryz.prog 6 [.agg (bC x), .aH 5 (E.map aU) E.length, .aH 1 (ns.map encI) ns.length, .agg (aU m)] (.v (.bool true)):=by
 have W:=DE;have GR:=Ec x E hl
 have eN:(E.map aU).length=E.length:=by simp
 have eNI:(ns.map encI).length=ns.length:=by simp
 rcases Bool.eq_false_or_eq_true (Eb x E||(decide (30<ns.length)||(decide (E.length=30)||decide (30<m.props.length)))) with hg|hg
 ·rw [aN] at GR ⊢;simp only [aU] at GR ⊢
  have c2:decide (30<(ns.length:Int))=decide (30<ns.length):=by rw [decide_eq_decide];omega
  have c3:((E.length:Int)==30)=decide (E.length=30):=by rw [Xt,beq_iff_eq,decide_eq_true_eq];omega
  have c4:decide (30<(m.props.length:Int))=decide (30<m.props.length):=by rw [decide_eq_decide];omega
  (refine ah.enter Tryz.func6 rfl (by kernel_rfl) (by kernel_rfl) rfl (by first|rfl|(simp only [go_sem,WT,Wg,Wn])) (by first|rfl|(simp only [go_sem,WT,Wg,Wn])) ?_;simp only [Tryz.ntmps6,Tryz.results6,U9,U3,Nat.reduceAdd,Nat.reduceSub,WW,WX,List.cons_append,List.nil_append])
  repeat (first|(with_reducible first|refine ag.up ?_|refine fun (K:AK) hK=> ?_|refine wD ?_|refine ae (by decide) ?_|(refine hK _ ?_;clear hK K))|simp only [go_sem]|with_reducible refine wA ?_|(refine ax rfl ?_)|(refine ak rfl ?_)|(refine ai rfl ?_)|clear hK K)
  refine ab.one W ?_
  repeat (first|(with_reducible first|refine ag.up ?_|refine fun (K:AK) hK=> ?_|refine wD ?_|refine ae (by decide) ?_|(refine hK _ ?_;clear hK K))|simp only [go_sem]|with_reducible refine wA ?_|(refine ax rfl ?_)|(refine ak rfl ?_)|(refine ai rfl ?_)|clear hK K)
  refine ab.one GR ?_
  cases b1:Eb x E
  ·cases b2:decide (30<ns.length)
   ·cases b3:decide (E.length=30)
    ·have b4:decide (30<m.props.length)=true:=by simpa [b1,b2,b3] using hg
     repeat (first|(with_reducible first|refine ag.up ?_|refine fun (K:AK) hK=> ?_|refine wD ?_|refine ae (by decide) ?_|(refine hK _ ?_;clear hK K))|simp only [go_sem,b1,c2,b2,c3,b3,c4,b4]|with_reducible refine wA ?_|(refine ax rfl ?_)|(refine ak rfl ?_)|(refine ai rfl ?_)|clear hK K)
    ·repeat (first|(with_reducible first|refine ag.up ?_|refine fun (K:AK) hK=> ?_|refine wD ?_|refine ae (by decide) ?_|(refine hK _ ?_;clear hK K))|simp only [go_sem,b1,c2,b2,c3,b3]|with_reducible refine wA ?_|(refine ax rfl ?_)|(refine ak rfl ?_)|(refine ai rfl ?_)|clear hK K)
   ·repeat (first|(with_reducible first|refine ag.up ?_|refine fun (K:AK) hK=> ?_|refine wD ?_|refine ae (by decide) ?_|(refine hK _ ?_;clear hK K))|simp only [go_sem,b1,c2,b2]|with_reducible refine wA ?_|(refine ax rfl ?_)|(refine ak rfl ?_)|(refine ai rfl ?_)|clear hK K)
  ·repeat (first|(with_reducible first|refine ag.up ?_|refine fun (K:AK) hK=> ?_|refine wD ?_|refine ae (by decide) ?_|(refine hK _ ?_;clear hK K))|simp only [go_sem,b1]|with_reducible refine wA ?_|(refine ax rfl ?_)|(refine ak rfl ?_)|(refine ai rfl ?_)|clear hK K)
 ·simp only [Bool.or_eq_false_iff,decide_eq_false_iff_not] at hg;obtain ⟨g1,g2,g3,g4⟩:=hg;rw [g1] at GR;obtain ⟨h30,hp⟩:=Kc g1;have c2:decide (30<(ns.length:Int))=false:=decide_eq_false (by omega)
  have c3:((E.length:Int)==30)=false:=by rw [beq_eq_false_iff_ne];omega
  have c4:decide (30<(m.props.length:Int))=false:=decide_eq_false (by omega);have hok: ∀e∈E,qA e:=fun e he=>(hE e he).LR (by have:=hp e he;omega);have hom:qA m:=hm.LR (by omega);have PS:=uX x E hx hok (by omega) (ik x);have hLl:=uk x E (by omega) (ik x);have hR:=EF (x:=x) (E:=E) (ik x)
  have PM:=uX x (E++[m]) hx (fun e he=>by
   rcases List.mem_append.1 he with he|he
   ·exact hok e he
   ·rw [List.mem_singleton.1 he];exact hom) (by simp;omega) (ik x)
  have hWk:fb x E=0-> ∀f v w τ,I4 E f v w τ->ei x w=true->τ<=iy (fc x E) f v:=fun h0 f v w τ h k=>EH (fun A h=>(BU h).2.2.1) h0 h k;have hMo:fb x E=0->fb x (E++[m])=0-> ∀p∈fc x E,p.2<=iy (fc x (E++[m])) p.1.1 p.1.2:=fun h0 h p hp=>EE m (ik x) h0 h hp;rw [um] at PS;generalize fc x E=L at *;have TL:=fun f t=>y5 L f t (by omega);have TKx:=fun w (hw:w.length<=1000)=>Li x w hx hw;rw [aN] at GR PS PM ⊢;simp only [aU] at GR PS PM ⊢
  (refine ah.enter Tryz.func6 rfl (by kernel_rfl) (by kernel_rfl) rfl (by first|rfl|(simp only [go_sem,WT,Wg,Wn])) (by first|rfl|(simp only [go_sem,WT,Wg,Wn])) ?_;simp only [Tryz.ntmps6,Tryz.results6,U9,U3,Nat.reduceAdd,Nat.reduceSub,WW,WX,List.cons_append,List.nil_append])
  repeat (first|(with_reducible first|refine ag.up ?_|refine fun (K:AK) hK=> ?_|refine wD ?_|refine ae (by decide) ?_|(refine hK _ ?_;clear hK K))|simp only [go_sem]|with_reducible refine wA ?_|(refine ax rfl ?_)|(refine ak rfl ?_)|(refine ai rfl ?_)|clear hK K)
  refine ab.one W ?_
  repeat (first|(with_reducible first|refine ag.up ?_|refine fun (K:AK) hK=> ?_|refine wD ?_|refine ae (by decide) ?_|(refine hK _ ?_;clear hK K))|simp only [go_sem]|with_reducible refine wA ?_|(refine ax rfl ?_)|(refine ak rfl ?_)|(refine ai rfl ?_)|clear hK K)
  refine ab.one GR ?_
  repeat (first|(with_reducible first|refine ag.up ?_|refine fun (K:AK) hK=> ?_|refine wD ?_|refine ae (by decide) ?_|(refine hK _ ?_;clear hK K))|simp only [go_sem,c2,c3,c4]|with_reducible refine wA ?_|(refine ax rfl ?_)|(refine ak rfl ?_)|(refine ai rfl ?_)|clear hK K)
  refine ab.one PS ?_
  by_cases h0:fb x E=0
  ·rw [if_pos h0]
   by_cases hne:E=[]
   ·have z1:((E.length:Int)==0)=true:=by rw [hne];rfl
    repeat (first|(with_reducible first|refine ag.up ?_|refine fun (K:AK) hK=> ?_|refine wD ?_|refine ae (by decide) ?_|(refine hK _ ?_;clear hK K))|simp only [go_sem,z1]|with_reducible refine wA ?_|(refine ax rfl ?_)|(refine ak rfl ?_)|(refine ai rfl ?_)|clear hK K)
   have hWk:=hWk h0;have hMo:=hMo h0;have hEl:1<=E.length:=List.length_pos_iff.2 hne
   have z1:((E.length:Int)==0)=false:=by rw [beq_eq_false_iff_ne];omega
   repeat (first|(with_reducible first|refine ag.up ?_|refine fun (K:AK) hK=> ?_|refine wD ?_|refine ae (by decide) ?_|(refine hK _ ?_;clear hK K))|simp only [go_sem,z1]|with_reducible refine wA ?_|(refine ax rfl ?_)|(refine ak rfl ?_)|(refine ai rfl ?_)|clear hK K)
   have eNL:(L.map bV).length=L.length:=by simp
   refine bD (ι:=Nat) 11 (fun i=>[(11, .v (.int .i64 (i:Nat)))]) (fun i=>L.length - i) (fun i=>1<=i∧i<=L.length+1) 1 ⟨Nat.le_refl _,by omega⟩ ?_ ?_
   ·(refine aq ?_ ?_ ?_<;>simp only [aD,WJ,WK,WW,WX,aW,aY,AV.v.injEq,Value.int.injEq,Value.bool.injEq,Value.string.injEq,AV.vec.injEq,AV.ptr.injEq,true_or,or_true,false_or,or_false,aa.mk.injEq,forall_eq_apply_imp_iff,forall_eq,forall_eq',go_sem])
    all_goals first|rfl
   ·rintro i ⟨hi1,hi⟩ K hK
    rcases U6 i L.length with h|h
    ·obtain ⟨j,rfl⟩: ∃j,i=j+1:=⟨i - 1,by omega⟩;have d1:decide (((j+1:Nat):Int)<(L.length:Int))=true:=decide_eq_true (by omega);have hlt:=Ib hR h;have e1:=getD_map bV L j [] (by omega);have e2:=getD_map bV L (j+1) [] h;simp only [bV] at e1 e2;have ws:=aB (k:=j+1) (by omega)
     have wp:IntKind.i64.wrap (((j+1:Nat):Int) - 1)=(j:Nat):=by rw [cF (by omega) (by omega)];omega
     generalize L[j+1]=q at *;generalize L[j]=p at *
     rcases hlt with hlt|⟨hlt,hlt2⟩
     ·have q1:Op.bytesLess p.1.1.toList q.1.1.toList=true:=ft.2 hlt
      have q2:(p.1.1.toList==q.1.1.toList)=false:=by
       rw [jw,decide_eq_false_iff_not];intro e;rw [e] at hlt;exact List.lt_irrefl _ hlt
      repeat (first|(with_reducible first|refine ag.up ?_|refine fun (K:AK) hK=> ?_|refine wD ?_|refine ae (by decide) ?_|(refine hK _ ?_;clear hK K))|simp only [go_sem,d1,e1,e2,eNL,ws,wp,q1,q2,X9,Ya,Yi,Yj,Yk]|with_reducible refine wA ?_|(refine ax rfl ?_)|(refine ak rfl ?_)|(refine ai rfl ?_)|clear hK K)
      exact aJ.mk (j+1+1) ⟨by omega,by omega⟩ (show L.length - (j+1+1)<L.length - (j+1) by omega) (by (refine aq ?_ ?_ ?_<;>simp only [aD,WJ,WK,WW,WX,aW,aY,AV.v.injEq,Value.int.injEq,Value.bool.injEq,Value.string.injEq,AV.vec.injEq,AV.ptr.injEq,true_or,or_true,false_or,or_false,aa.mk.injEq,forall_eq_apply_imp_iff,forall_eq,forall_eq',go_sem]))
     ·have q1:Op.bytesLess p.1.1.toList q.1.1.toList=false:=by
       rw [<-Bool.not_eq_true];intro e;have:=ft.1 (show Cj p.1.1 q.1.1=true from e);rw [hlt] at this;exact List.lt_irrefl _ this
      have q2:(p.1.1.toList==q.1.1.toList)=true:=by rw [jw];exact decide_eq_true hlt
      have q3:Op.bytesLess p.1.2.toList q.1.2.toList=true:=ft.2 hlt2
      repeat (first|(with_reducible first|refine ag.up ?_|refine fun (K:AK) hK=> ?_|refine wD ?_|refine ae (by decide) ?_|(refine hK _ ?_;clear hK K))|simp only [go_sem,d1,e1,e2,eNL,ws,wp,q1,q2,q3,X9,Ya,Yi,Yj,Yk]|with_reducible refine wA ?_|(refine ax rfl ?_)|(refine ak rfl ?_)|(refine ai rfl ?_)|clear hK K)
      exact aJ.mk (j+1+1) ⟨by omega,by omega⟩ (show L.length - (j+1+1)<L.length - (j+1) by omega) (by (refine aq ?_ ?_ ?_<;>simp only [aD,WJ,WK,WW,WX,aW,aY,AV.v.injEq,Value.int.injEq,Value.bool.injEq,Value.string.injEq,AV.vec.injEq,AV.ptr.injEq,true_or,or_true,false_or,or_false,aa.mk.injEq,forall_eq_apply_imp_iff,forall_eq,forall_eq',go_sem]))
    ·have d1:decide ((i:Int)<(L.length:Int))=false:=decide_eq_false (by omega)
     repeat ((fail_if_success (with_reducible refine LO (i:=15) ?_));first|(with_reducible first|refine ag.up ?_|refine fun (K:AK) hK=> ?_|refine wD ?_|refine ae (by decide) ?_|(refine hK _ ?_;clear hK K))|simp only [go_sem,d1]|with_reducible refine wA ?_|(refine ax rfl ?_)|(refine ak rfl ?_)|(refine ai rfl ?_)|clear hK K)
     refine pE ⟨aD 211 [(1, .aH 5 (E.map aU) E.length),(4, .ptr 0 0 3 0 0),(7, .ptr 1 0 5 0 0),(9, .aH 3 (L.map bV) L.length)],[AT x,AQ m], .no⟩ (by kernel_rfl) (by kernel_rfl) ?_ ?_
     ·repeat (first|(with_reducible first|refine ag.up ?_|refine fun (K:AK) hK=> ?_|refine wD ?_|refine ae (by decide) ?_|(refine hK _ ?_;clear hK K))|simp only [go_sem]|with_reducible refine wA ?_|(refine ax rfl ?_)|(refine ak rfl ?_)|(refine ai rfl ?_)|clear hK K)
      refine jh (ι:=WS) 12 9 1 rfl (by decide) 23 (fun s=>[(12, .vec 2 s.w.length),(13, .v (.string s.f)),(14, .v (.string s.a)),(15, .v (.int .i64 s.t)),(16, .v (.int .i64 (s.i:Nat)))]) (fun s=>[AT x,AQ m,some ⟨9,1,true,s.w.map encS⟩]) (fun s=>ns.length - s.i) (fun s=>s.ok E ns.length) ⟨0,[],⟨#[]⟩,⟨#[]⟩,xu⟩ ⟨Nat.zero_le _,rfl,fun _=>⟨rfl,rfl⟩,fun h=>absurd h (by decide)⟩ ?_ ?_
      ·simp only [AT,AQ,aU]
       (refine aq ?_ ?_ ?_<;>simp only [aD,WJ,WK,WW,WX,aW,aY,AV.v.injEq,Value.int.injEq,Value.bool.injEq,Value.string.injEq,AV.vec.injEq,AV.ptr.injEq,true_or,or_true,false_or,or_false,aa.mk.injEq,forall_eq_apply_imp_iff,forall_eq,forall_eq',go_sem])
       all_goals first|exact ⟨rfl,rfl⟩
      ·rintro s hs K hK;have hs2:=hs;obtain ⟨h1,h2,h3,h4⟩:=hs2;simp only [AT,AQ,aU]
       rcases U6 s.i ns.length with hi|hi
       ·have d1:decide ((s.i:Int)<(ns.length:Int))=true:=decide_eq_true (by omega);have ws:=aB (k:=s.i) (by omega)
        repeat (first|(with_reducible first|refine ag.up ?_|refine fun (K:AK) hK=> ?_|refine wD ?_|refine ae (by decide) ?_|(refine hK _ ?_;clear hK K))|simp only [go_sem,d1]|with_reducible refine wA ?_|(refine ax rfl ?_)|(refine ak rfl ?_)|(refine ai rfl ?_)|clear hK K)
        refine jh (ι:=Nat) 17 35 5 rfl (by decide) 23 (fun k=>[(17, .vec 3 (gD s.i s.a (E.take k)).length),(18, .v (.int .i64 (k:Nat)))]) (fun k=>[AT x,AQ m,some ⟨9,1,true,s.w.map encS⟩,some ⟨35,5,true,(gD s.i s.a (E.take k)).map aU⟩]) (fun k=>E.length - k) (fun k=>k<=E.length) 0 (Nat.zero_le _) ?_ ?_
        ·simp only [AT,AQ,aU]
         (refine aq ?_ ?_ ?_<;>simp only [aD,WJ,WK,WW,WX,aW,aY,AV.v.injEq,Value.int.injEq,Value.bool.injEq,Value.string.injEq,AV.vec.injEq,AV.ptr.injEq,true_or,or_true,false_or,or_false,aa.mk.injEq,forall_eq_apply_imp_iff,forall_eq,forall_eq',go_sem])
         all_goals first|rfl|exact ⟨rfl,rfl⟩
        ·rintro k hk K hK;simp only [AT,AQ,aU]
         rcases U6 k E.length with hk2|hk2
         ·have d2:decide ((k:Int)<(E.length:Int))=true:=decide_eq_true (by omega);have e1:=nC hk2;have ws2:=aB (k:=k) (by omega);have eY:=Ew s.i s.a E hk2
          have eM:((gD s.i s.a (E.take k)).map aU).length=(gD s.i s.a (E.take k)).length:=by simp
          have eW:=dJ 4 (gD s.i s.a (E.take (k+1)));have hyl:(gD s.i s.a (E.take k)).length<=30:=Nat.le_trans (Yl _ _) (by rw [List.length_take];omega)
          have hb1:((gD s.i s.a (E.take k)).length+1) * 80<=140737488355328:=by omega
          have hb2:(gD s.i s.a (E.take k)).length<=140737488355327:=by omega
          generalize E[k]=e at *
          have z5:((s.i:Int)==0)=decide (s.i=0):=by rw [Xt,beq_iff_eq,decide_eq_true_eq];omega
          have z6:(e.aD.toList==s.a.toList)=decide (e.aD=s.a):=jw _ _
          cases b1:decide (s.i=0)
          ·rw [b1] at z5
           cases b2:decide (e.aD=s.a)
           ·rw [b2] at z6;rw [b1,b2,if_neg (by decide),List.append_nil] at eY
            repeat (first|(with_reducible first|refine ag.up ?_|refine fun (K:AK) hK=> ?_|refine wD ?_|refine ae (by decide) ?_|(refine hK _ ?_;clear hK K))|simp only [go_sem,d2,e1,eN,eM,ws2,hb1,hb2,z5,z6,X9,Ya,Yi,Yj,Yk]|with_reducible refine wA ?_|(refine ax rfl ?_)|(refine ak rfl ?_)|(refine ai rfl ?_)|clear hK K)
            refine aJ.mk (k+1) hk2 (show E.length - (k+1)<E.length - k by omega) ?_;simp only [AT,AQ,aU];rw [eY];rw [eY] at eW
            (refine aq ?_ ?_ ?_<;>simp only [aD,WJ,WK,WW,WX,aW,aY,AV.v.injEq,Value.int.injEq,Value.bool.injEq,Value.string.injEq,AV.vec.injEq,AV.ptr.injEq,true_or,or_true,false_or,or_false,aa.mk.injEq,forall_eq_apply_imp_iff,forall_eq,forall_eq',go_sem])
           ·rw [b2] at z6;rw [b1,b2,if_pos (by decide)] at eY
            repeat (first|(with_reducible first|refine ag.up ?_|refine fun (K:AK) hK=> ?_|refine wD ?_|refine ae (by decide) ?_|(refine hK _ ?_;clear hK K))|simp only [go_sem,d2,e1,eN,eM,ws2,hb1,hb2,z5,z6,X9,Ya,Yi,Yj,Yk]|with_reducible refine wA ?_|(refine ax rfl ?_)|(refine ak rfl ?_)|(refine ai rfl ?_)|clear hK K)
            refine aJ.mk (k+1) hk2 (show E.length - (k+1)<E.length - k by omega) ?_;rw [eY] at eW ⊢;simp only [XK,WR,Xb,U8,U9,U3,aU,AT,AQ] at eW ⊢
            (refine aq ?_ ?_ ?_<;>simp only [aD,WJ,WK,WW,WX,aW,aY,AV.v.injEq,Value.int.injEq,Value.bool.injEq,Value.string.injEq,AV.vec.injEq,AV.ptr.injEq,true_or,or_true,false_or,or_false,aa.mk.injEq,forall_eq_apply_imp_iff,forall_eq,forall_eq',go_sem])
          ·rw [b1] at z5;rw [b1,X9,if_pos rfl] at eY
           repeat (first|(with_reducible first|refine ag.up ?_|refine fun (K:AK) hK=> ?_|refine wD ?_|refine ae (by decide) ?_|(refine hK _ ?_;clear hK K))|simp only [go_sem,d2,e1,eN,eM,ws2,hb1,hb2,z5,z6,X9,Ya,Yi,Yj,Yk]|with_reducible refine wA ?_|(refine ax rfl ?_)|(refine ak rfl ?_)|(refine ai rfl ?_)|clear hK K)
           refine aJ.mk (k+1) hk2 (show E.length - (k+1)<E.length - k by omega) ?_;rw [eY] at eW ⊢;simp only [XK,WR,Xb,U8,U9,U3,aU,AT,AQ] at eW ⊢
           (refine aq ?_ ?_ ?_<;>simp only [aD,WJ,WK,WW,WX,aW,aY,AV.v.injEq,Value.int.injEq,Value.bool.injEq,Value.string.injEq,AV.vec.injEq,AV.ptr.injEq,true_or,or_true,false_or,or_false,aa.mk.injEq,forall_eq_apply_imp_iff,forall_eq,forall_eq',go_sem])
         ·have e0:k=E.length:=by omega
          have d2:decide ((E.length:Int)<(E.length:Int))=false:=decide_eq_false (by omega);have e2:E.take E.length=E:=List.take_length;simp only [e0,e2];have hnl:(gD s.i s.a E).length<=30:=Nat.le_trans (Yl _ _) (by omega)
          by_cases hn0:(gD s.i s.a E).length=0
          ·have z7:(((gD s.i s.a E).length:Int)==0)=true:=by rw [hn0];rfl
           repeat (first|(with_reducible first|refine ag.up ?_|refine fun (K:AK) hK=> ?_|refine wD ?_|refine ae (by decide) ?_|(refine hK _ ?_;clear hK K))|simp only [go_sem,d2,z7]|with_reducible refine wA ?_|(refine ax rfl ?_)|(refine ak rfl ?_)|(refine ai rfl ?_)|clear hK K)
           simp only [AT,AQ,aU,aD,WJ,WK,WW,WX]
           (refine aq ?_ ?_ ?_<;>simp only [aD,WJ,WK,WW,WX,aW,aY,AV.v.injEq,Value.int.injEq,Value.bool.injEq,Value.string.injEq,AV.vec.injEq,AV.ptr.injEq,true_or,or_true,false_or,or_false,aa.mk.injEq,forall_eq_apply_imp_iff,forall_eq,forall_eq',go_sem])
          ·have z7:(((gD s.i s.a E).length:Int)==0)=false:=by rw [beq_eq_false_iff_ne];omega
           have e3:=getD_map encI ns s.i [] hi;simp only [encI] at e3;have PK:=M0 ns[s.i] ((gD s.i s.a E).length:Nat) (by omega);have hpr:=pQ (x:=ns[s.i]) (n:=((gD s.i s.a E).length:Nat)) (by omega);obtain ⟨j,hj⟩: ∃j:Nat,lf ns[s.i] ((gD s.i s.a E).length:Nat)=j:=⟨(lf ns[s.i] ((gD s.i s.a E).length:Nat)).toNat,by omega⟩;rw [hj] at PK hpr
           have hjl:j<(gD s.i s.a E).length:=by omega
           have e4:=nC hjl;have hmem:=List.getElem_mem hjl;generalize (gD s.i s.a E)[j]=e at *;generalize ns[s.i]=nv at *
           have eM:((gD s.i s.a E).map aU).length=(gD s.i s.a E).length:=by simp
           repeat (first|(with_reducible first|refine ag.up ?_|refine fun (K:AK) hK=> ?_|refine wD ?_|refine ae (by decide) ?_|(refine hK _ ?_;clear hK K))|simp only [go_sem,d2,z7,e3,eNI]|with_reducible refine wA ?_|(refine ax rfl ?_)|(refine ak rfl ?_)|(refine ai rfl ?_)|clear hK K)
           refine ab.one PK ?_
           repeat (first|(with_reducible first|refine ag.up ?_|refine fun (K:AK) hK=> ?_|refine wD ?_|refine ae (by decide) ?_|(refine hK _ ?_;clear hK K))|simp only [go_sem,e4,eM]|with_reducible refine wA ?_|(refine ax rfl ?_)|(refine ak rfl ?_)|(refine ai rfl ?_)|clear hK K)
           obtain ⟨hOK,hWT⟩:=WS.KE hs hi hmem;have TKX:=TKx (s.w++[e.label]) (by simp;omega);rw [aN] at TKX;simp only [cg,XK,WR,Xb,U8,U9,U3,encS] at TKX
           have eMw:(s.w.map encS).length=s.w.length:=by simp
           have hb3:(s.w.length+1) * 16<=140737488355328:=by omega
           have hb4:s.w.length<=140737488355327:=by omega
           have em:(if e.time<s.t then e.time else s.t)=min s.t e.time:=by omega
           have z5:((s.i:Int)==0)=decide (s.i=0):=by rw [Xt,beq_iff_eq,decide_eq_true_eq];omega
           have fN:(s.next e).f=if s.i=0 then e.aD else s.f:=rfl
           have q:=hWk _ _ _ _ hWT;have d3:ei x (s.w++[e.label])=true->decide (iy L (s.next e).f e.to<min s.t e.time)=false:=fun ht=>decide_eq_false (by have h5:min s.t e.time<=iy L (s.next e).f e.to:=q ht;omega)
           by_cases h00:s.i=0
           all_goals
            first|(rw [decide_eq_true h00] at z5;rw [if_pos h00] at fN)|(rw [decide_eq_false h00] at z5;rw [if_neg h00] at fN)
            rw [fN] at d3
            repeat (first|(with_reducible first|refine ag.up ?_|refine fun (K:AK) hK=> ?_|refine wD ?_|refine ae (by decide) ?_|(refine hK _ ?_;clear hK K))|simp only [go_sem,z5,eMw,hb3,hb4,em]|with_reducible refine wA ?_|(refine ax rfl ?_)|(refine ak rfl ?_)|(refine ai rfl ?_)|clear hK K)
            refine ab.Ff TKX 8 rfl (by simp only [go_sem,Nat.reduceLT,Nat.reduceLeDiff,Nat.reduceEqDiff,Nat.lt_add_one,Nat.zero_lt_one,and_self]) rfl ?_
            cases ht:ei x (s.w++[e.label])
            ·repeat (first|(with_reducible first|refine ag.up ?_|refine fun (K:AK) hK=> ?_|refine wD ?_|refine ae (by decide) ?_|(refine hK _ ?_;clear hK K))|simp only [go_sem,ht,ws]|with_reducible refine wA ?_|(refine ax rfl ?_)|(refine ak rfl ?_)|(refine ai rfl ?_)|clear hK K)
             refine aJ.mk (s.next e) hOK (show ns.length - (s.i+1)<ns.length - s.i by omega) ?_;simp only [AT,AQ,aU];rw [fN];simp only [WS.next,XK,WR,Xb,U8,U9,U3,encS]
             (refine aq ?_ ?_ ?_<;>simp only [aD,WJ,WK,WW,WX,aW,aY,AV.v.injEq,Value.int.injEq,Value.bool.injEq,Value.string.injEq,AV.vec.injEq,AV.ptr.injEq,true_or,or_true,false_or,or_false,aa.mk.injEq,forall_eq_apply_imp_iff,forall_eq,forall_eq',go_sem])
            ·have d4:=d3 ht
             repeat (first|(with_reducible first|refine ag.up ?_|refine fun (K:AK) hK=> ?_|refine wD ?_|refine ae (by decide) ?_|(refine hK _ ?_;clear hK K))|simp only [go_sem,ht]|with_reducible refine wA ?_|(refine ax rfl ?_)|(refine ak rfl ?_)|(refine ai rfl ?_)|clear hK K)
             refine ab.one (TL _ e.to) ?_
             repeat (first|(with_reducible first|refine ag.up ?_|refine fun (K:AK) hK=> ?_|refine wD ?_|refine ae (by decide) ?_|(refine hK _ ?_;clear hK K))|simp only [go_sem,d4,ws]|with_reducible refine wA ?_|(refine ax rfl ?_)|(refine ak rfl ?_)|(refine ai rfl ?_)|clear hK K)
             refine aJ.mk (s.next e) hOK (show ns.length - (s.i+1)<ns.length - s.i by omega) ?_;simp only [AT,AQ,aU];rw [fN];simp only [WS.next,XK,WR,Xb,U8,U9,U3,encS]
             (refine aq ?_ ?_ ?_<;>simp only [aD,WJ,WK,WW,WX,aW,aY,AV.v.injEq,Value.int.injEq,Value.bool.injEq,Value.string.injEq,AV.vec.injEq,AV.ptr.injEq,true_or,or_true,false_or,or_false,aa.mk.injEq,forall_eq_apply_imp_iff,forall_eq,forall_eq',go_sem])
       ·have d1:decide ((s.i:Int)<(ns.length:Int))=false:=decide_eq_false (by omega)
        repeat (first|(with_reducible first|refine ag.up ?_|refine fun (K:AK) hK=> ?_|refine wD ?_|refine ae (by decide) ?_|(refine hK _ ?_;clear hK K))|simp only [go_sem,d1]|with_reducible refine wA ?_|(refine ax rfl ?_)|(refine ak rfl ?_)|(refine ai rfl ?_)|clear hK K)
        simp only [AT,AQ,aU,aD,WJ,WK,WW,WX]
        (refine aq ?_ ?_ ?_<;>simp only [aD,WJ,WK,WW,WX,aW,aY,AV.v.injEq,Value.int.injEq,Value.bool.injEq,Value.string.injEq,AV.vec.injEq,AV.ptr.injEq,true_or,or_true,false_or,or_false,aa.mk.injEq,forall_eq_apply_imp_iff,forall_eq,forall_eq',go_sem])
     ·have eT:(E.map aU).take E.length=E.map aU:=List.take_of_length_le (by simp)
      have hb5:E.length * 80<=140737488355328:=by omega
      have hb6:(E.length+1) * 80<=140737488355328:=by omega
      have hb7:E.length<=140737488355328:=by omega
      have hb8:E.length+1<=140737488355328:=by omega
      have eWE:=dJ;simp only [AT,AQ,aU];simp only [aD,WJ,WK,WW,WX,go_sem]
      repeat ((fail_if_success (with_reducible refine bL (i:=33) ?_));first|(with_reducible first|refine ag.up ?_|refine fun (K:AK) hK=> ?_|refine ae (by decide) ?_|(refine hK _ ?_;clear hK K))|simp only [go_sem]|with_reducible refine wA ?_|(refine ax rfl ?_)|(refine ak rfl ?_)|(refine ai rfl ?_)|clear hK K)
      refine dt [1,3,6,7] [(0,1000),(4,0)] (by decide+kernel) (by kernel_rfl) ?_
      repeat (first|(with_reducible first|refine ag.up ?_|refine fun (K:AK) hK=> ?_|refine ae (by decide) ?_|(refine hK _ ?_;clear hK K))|simp only [go_sem,eN,eT,hb5,hb6,hb7,hb8]|with_reducible refine wA ?_|(refine ax rfl ?_)|(refine ak rfl ?_)|(refine ai rfl ?_)|clear hK K)
      simp only [XK,WR,Xb,U8,U9,U3,aU] at PM;refine mf.out (aK.D6 PM rfl (by simp only [go_sem,Nat.reduceLT,Nat.reduceLeDiff,Nat.reduceEqDiff,Nat.lt_add_one,Nat.zero_lt_one,and_self])) ?_
      by_cases hM0:fb x (E++[m])=0
      ·rw [um,if_pos hM0];have hLm:=uk x (E++[m]) (by simp;omega) (ik x);have hMo:=hMo hM0;generalize fc x (E++[m])=M at *;have TM:=fun f t=>y5 M f t (by omega)
       repeat (first|(with_reducible first|refine ag.up ?_|refine fun (K:AK) hK=> ?_|refine wD ?_|refine ae (by decide) ?_|(refine hK _ ?_;clear hK K))|simp only [go_sem]|with_reducible refine wA ?_|(refine ax rfl ?_)|(refine ak rfl ?_)|(refine ai rfl ?_)|clear hK K)
       refine bD (ι:=Nat) 22 (fun i=>[(22, .v (.int .i64 (i:Nat)))]) (fun i=>L.length - i) (fun i=>i<=L.length) 0 (Nat.zero_le _) ?_ ?_
       ·(refine aq ?_ ?_ ?_<;>simp only [aD,WJ,WK,WW,WX,aW,aY,AV.v.injEq,Value.int.injEq,Value.bool.injEq,Value.string.injEq,AV.vec.injEq,AV.ptr.injEq,true_or,or_true,false_or,or_false,aa.mk.injEq,forall_eq_apply_imp_iff,forall_eq,forall_eq',go_sem])
        all_goals first|rfl
       ·rintro i hi K hK
        rcases U6 i L.length with h|h
        ·have d1:decide ((i:Int)<(L.length:Int))=true:=decide_eq_true (by omega);have e1:=getD_map bV L i [] h;simp only [bV] at e1;have ws:=aB (k:=i) (by omega);have hq:=hMo L[i] (List.getElem_mem h);generalize L[i]=p at *;have d2:decide (iy M p.1.1 p.1.2<p.2)=false:=decide_eq_false (by omega)
         repeat (first|(with_reducible first|refine ag.up ?_|refine fun (K:AK) hK=> ?_|refine wD ?_|refine ae (by decide) ?_|(refine hK _ ?_;clear hK K))|simp only [go_sem,d1,e1,eNL,beq_self_eq_true,ws]|with_reducible refine wA ?_|(refine ax rfl ?_)|(refine ak rfl ?_)|(refine ai rfl ?_)|clear hK K)
         refine bf.one (TM p.1.1 p.1.2) ?_
         repeat (first|(with_reducible first|refine ag.up ?_|refine fun (K:AK) hK=> ?_|refine wD ?_|refine ae (by decide) ?_|(refine hK _ ?_;clear hK K))|simp only [go_sem,d2,ws,e1,eNL]|with_reducible refine wA ?_|(refine ax rfl ?_)|(refine ak rfl ?_)|(refine ai rfl ?_)|clear hK K)
         exact aJ.mk (i+1) h (show L.length - (i+1)<L.length - i by omega) (by (refine aq ?_ ?_ ?_<;>simp only [aD,WJ,WK,WW,WX,aW,aY,AV.v.injEq,Value.int.injEq,Value.bool.injEq,Value.string.injEq,AV.vec.injEq,AV.ptr.injEq,true_or,or_true,false_or,or_false,aa.mk.injEq,forall_eq_apply_imp_iff,forall_eq,forall_eq',go_sem]))
        ·have d1:decide ((i:Int)<(L.length:Int))=false:=decide_eq_false (by omega)
         repeat (first|(with_reducible first|refine ag.up ?_|refine fun (K:AK) hK=> ?_|refine wD ?_|refine ae (by decide) ?_|(refine hK _ ?_;clear hK K))|simp only [go_sem,d1]|with_reducible refine wA ?_|(refine ax rfl ?_)|(refine ak rfl ?_)|(refine ai rfl ?_)|clear hK K)
      ·rw [um,if_neg hM0]
       have z8:(fb x (E++[m])==0)=false:=by rw [beq_eq_false_iff_ne];exact hM0
       repeat (first|(with_reducible first|refine ag.up ?_|refine fun (K:AK) hK=> ?_|refine wD ?_|refine ae (by decide) ?_|(refine hK _ ?_;clear hK K))|simp only [go_sem]|with_reducible refine wA ?_|(refine ax rfl ?_)|(refine ak rfl ?_)|(refine ai rfl ?_)|clear hK K)
       refine bD (ι:=Nat) 22 (fun i=>[(22, .v (.int .i64 (i:Nat)))]) (fun i=>1 - i) (fun i=>i=0) 0 rfl ?_ ?_
       ·(refine aq ?_ ?_ ?_<;>simp only [aD,WJ,WK,WW,WX,aW,aY,AV.v.injEq,Value.int.injEq,Value.bool.injEq,Value.string.injEq,AV.vec.injEq,AV.ptr.injEq,true_or,or_true,false_or,or_false,aa.mk.injEq,forall_eq_apply_imp_iff,forall_eq,forall_eq',go_sem])
        all_goals first|rfl
       ·rintro i hi K hK
        cases d1:decide ((i:Int)<(L.length:Int))
        ·repeat (first|(with_reducible first|refine ag.up ?_|refine fun (K:AK) hK=> ?_|refine wD ?_|refine ae (by decide) ?_|(refine hK _ ?_;clear hK K))|simp only [go_sem,d1,z8]|with_reducible refine wA ?_|(refine ax rfl ?_)|(refine ak rfl ?_)|(refine ai rfl ?_)|clear hK K)
        ·repeat (first|(with_reducible first|refine ag.up ?_|refine fun (K:AK) hK=> ?_|refine wD ?_|refine ae (by decide) ?_|(refine hK _ ?_;clear hK K))|simp only [go_sem,d1,z8]|with_reducible refine wA ?_|(refine ax rfl ?_)|(refine ak rfl ?_)|(refine ai rfl ?_)|clear hK K)
  ·have z1:(fb x E !=0)=true:=by simp [h0]
   rw [if_neg h0]
   repeat (first|(with_reducible first|refine ag.up ?_|refine fun (K:AK) hK=> ?_|refine wD ?_|refine ae (by decide) ?_|(refine hK _ ?_;clear hK K))|simp only [go_sem,z1]|with_reducible refine wA ?_|(refine ax rfl ?_)|(refine ak rfl ?_)|(refine ai rfl ?_)|clear hK K)
end Go.Proofs.YtlhhccmopfamhaaGreatDoor
