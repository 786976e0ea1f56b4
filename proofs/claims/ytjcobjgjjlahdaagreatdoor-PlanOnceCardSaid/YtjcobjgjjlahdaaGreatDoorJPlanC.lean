/- texts of one claim, one behind the other. -/
import Derived.Test.YtjcobjgjjlahdaaGreatDoorJEvery
import Derived.Test.YtjcobjgjjlahdaaGreatDoorJVerts
import Derived.Test.YtjcobjgjjlahdaaGreatDoorJNfaP
import Derived.Test.YtjcobjgjjlahdaaGreatDoorJDfaB
import Derived.Shelf.Slices.CompactS
import Derived.Lib.RowBridge
import Derived.Test.YtjcobjgjjlahdaaGreatDoorJDfaE
import Derived.Test.YtjcobjgjjlahdaaGreatDoorJChk3
import Derived.Test.YtjcobjgjjlahdaaGreatDoorJOrdB
set_option linter.unusedSimpArgs false
set_option linter.unusedVariables false
set_option maxRecDepth 100000
set_option maxHeartbeats 16000000
open Array renaming getElem?_eq_some_iff -> Q8
open List renaming length_map -> R5, getElem?_toArray -> Rr, getElem?_cons_zero -> Su, getElem?_cons_succ -> Tc, zip_cons_cons -> SJ, zip_nil_left -> SK, foldl_cons -> SI, foldl_nil -> SL, setIfInBounds_toArray -> SM, set_cons_succ -> SN, set_cons_zero -> SP, getElem?_eq_getElem -> Rp, mem_cons -> SZ, not_mem_nil -> S0, append_nil -> T3, mem_map -> T4, filter_cons_of_neg -> T5, cons_append -> Tl, nil_append -> Tm, length_cons -> Rg, length_nil -> Q9, replicate_succ -> Ti, replicate_zero -> Tj, length_take -> RB, take_length -> Tr, getElem_mem -> S9, take_succ_cons -> TF, take_zero -> TE, map_cons -> TN, map_nil -> TT
open Nat renaming le_refl -> Q5, le_succ -> T2, lt_or_ge -> Rc
open Bool renaming and_self -> Tg, and_eq_true -> RY, and_true -> SA, true_and -> SD, not_eq_eq_eq_not -> Tn, or_eq_false_iff -> T6
open Classical renaming byContradiction -> TR
open Option renaming map_some -> RI
namespace Go.Proofs.YtjcobjgjjlahdaaGreatDoor
open Go.RowKit
section
open Go.RowKit Go.Shelf
def G9:Go.Shelf.Ren:=⟨fun|194=>149|n=>n,fun|31=>43|9=>9|3=>3|4=>4|0=>0|n=>n,fun n=>n⟩
theorem vV:Lays.n194 Tryz.prog G9:={
 mixed:=by kernel_rfl
 f194:=Tryz.func149
 t0:=by kernel_rfl
 a0:=fun w=>by kernel_rfl
 z0:=fun w=>by kernel_rfl
 v0:=fun w=>by kernel_rfl
 t3:=by kernel_rfl
 a3:=fun w=>by kernel_rfl
 z3:=fun w=>by kernel_rfl
 v3:=fun w=>by kernel_rfl
 t4:=by kernel_rfl
 a4:=fun w=>by kernel_rfl
 z4:=fun w=>by kernel_rfl
 v4:=fun w=>by kernel_rfl
 t9:=by kernel_rfl
 a9:=fun w=>by kernel_rfl
 z9:=fun w=>by kernel_rfl
 v9:=fun w=>by kernel_rfl
 t31:=by kernel_rfl
 a31:=fun w=>by kernel_rfl
 z31:=fun w=>by kernel_rfl
 v31:=fun w=>by kernel_rfl }
attribute [local go_sem] Oper.semAt_some
def lN (l:List XC):List ByteArray:=(l.filter (fun c=>c.kind==1)).map (fun c=>c.label)
theorem Cm (l:List XC) (c:XC):lN (l++[c])=if c.kind=1 then lN l++[c.label] else lN l:=by
 by_cases h:c.kind=1<;>simp [lN,h]
theorem wL (l:List XC):(lN l).length<=l.length:=by
 rw [lN,R5];exact List.length_filter_le _ _
def nB (x:Ex):List (List UInt8):=Go.Lib.compact (((cB x).map (fun s=>s.data.toList)).mergeSort (fun x y=>decide (x<=y)))
def dZ (x:Ex):List ByteArray:=(nB x).map (fun l=>⟨l.toArray⟩)
open Go.Sort in
theorem y6 (x:Ex) (cx:List Value) (w:World) (hx:cU w x cx) (hok:x.ok) (hR:aT x=true) (hN:(az x).length<=1000000) (hE: ∀L:List XC,L.map XC.sig=(az x).map Ex.sig->lN L=cB x) :
  Calls Tryz.prog 113 #[.agg cx.toArray] w fun e w'=> ∃v,e = .returned v∧gZ w' (dZ x) v∧Below w.heap.size w w'∧ ∀b off n c,v = .slice (some ⟨b,off,none⟩) n c->w.heap.size<=b:=by
 have HRt:=Lib.hid (fun W hb=>hR ▸ lX x cx W (hx.below hb) hok);obtain ⟨k,s,kids⟩:=x;have hx':=hx;rw [cU] at hx;obtain ⟨sv,rfl,hr⟩:=hx;obtain ⟨p,c,rfl, -, -⟩:=hr.shape;refine (callsIn_wide (n:=9)).1 ?_;have HX:=Lib.hid hx';have HO:=Lib.hid hok;have HN:=Lib.hid hN;have HE:=Lib.hid hE;clear hx' hok hN hr hE;obtain ⟨i0,hi,hz0,hz1,hz2⟩:=info_parts An;have HI:=Lib.hid (show _∧_∧_∧_ from ⟨hi,hz0,hz1,hz2⟩);clear hi hz0 hz1 hz2;refine callsIn_of_wp_marks Tryz.func113 rfl trivial ?_ rfl;simp only [Tryz.ntmps113,List.size_toArray,List.length_cons,List.length_nil,Nat.reduceAdd,Nat.reduceSub,Array.replicate_succ,Array.replicate_zero,List.push_toArray,List.append_toArray,List.nil_append,List.cons_append]
 gi_wp2_with fail
 refine ⟨trivial,(callsIn_wide.2 (HRt.out _ (((Below.refl w.heap.size w).alloc (Q5 _) _).alloc (by simp) _))).mono ?_⟩;rintro e w1 ⟨rfl,hb1⟩;have HB1:=Lib.hid hb1;clear hb1;have hxb:w1.heap[w.heap.size]? = some (.cells #[.int .i64 k, .string s, .slice p kids.length c] 38 (0,0)):=(HB1.out.block w.heap.size (by simp;omega)).trans (iA (cM w (.cells #[.int .i64 k, .string s, .slice p kids.length c] 38)) _);have hob:w1.heap[w.heap.size+1]? = some (.cells #[.slice none 0 0] 43 (0,0)):=(HB1.out.block (w.heap.size+1) (by simp)).trans (by have:=cM (w.alloc (.cells #[.int .i64 k, .string s, .slice p kids.length c] 38)) (.cells #[.slice none 0 0] 43);simpa using this);have hx0:=ax hxb 0;have hx1:=ax hxb 1;have hx2:=ax hxb 2;simp only [Rr,Su,Tc] at hx0 hx1 hx2
 gi_wp2_with fail
 refine ⟨trivial, ?_⟩;refine (callsIn_wide.2 (sT _ _ _ _ _ _)).mono ?_;rintro e w' ⟨rfl,rfl⟩
 gi_wp2_with fail
 have hn1:w.heap.size+2<=w1.heap.size:=by simpa using HB1.out.size
 obtain ⟨W0,hW0⟩: ∃W0,w1.alloc (.cells #[.int .i64 k, .string s, .slice p kids.length c] 38)=W0:=⟨_,rfl⟩
 have hs0:W0.heap.size=w1.heap.size+1:=by rw [<-hW0];simp
 have hb01:Below w1.heap.size w1 W0:=by rw [<-hW0];exact (Below.refl _ _).alloc (Q5 _) _
 have hb0:Below w.heap.size w W0:=ae (ae (((Below.refl w.heap.size w).alloc (Q5 _) _).alloc (by simp) _) HB1.out) hb01;have hbo:W0.heap[w.heap.size+1]? = some (.cells #[.slice none 0 0] 43 (0,0)):=(hb01.block _ (by omega)).trans hob
 have hbp:W0.heap[w1.heap.size]? = some (.cells #[.int .i64 k, .string s, .slice p kids.length c] 38 (0,0)):=by rw [<-hW0];exact cM w1 _
 have hseq:=ot Fence.wide (fun _=>trivial) rfl rfl 8 w.heap.size (w.heap.size+2) w1.heap.size 9 (by decide) _ _ w W0 (Q5 _) (by omega) HX.out HO.out (.of hb0) hbp;rw [hW0];clear hxb hob hx0 hx1 hx2 hbp
 refine FP (lb:= #[.pointer (some ⟨w1.heap.size,0,none⟩)]) (gf:=185) rfl (enters_of Tryz.func185 (by kernel_rfl) rfl) hseq (Below.refl _ _) (fun _=>rfl)
  (fun pre W=>(∃v,Boxed W (w.heap.size+1) 43 v∧W.ownsRow w.heap.size 9 1 v (lN pre).length ((lN pre).map Value.string)∧True)∧(Below w.heap.size w W∧W0.heap.size<=W.heap.size)) (fun _ _ _=>False)
  (((holdsRow_own w.heap.size (w.heap.size+1) 43 9 1 (fun pre:List XC=>(lN pre).length) (fun pre=>(lN pre).map Value.string) (fun _ _=>True)).from _).and ((ownFrom_below (Q5 _) (by omega)).and (fun _ _ _ _ hs hg _=>Nat.le_trans hs hg.size)))
  (fun _ _ _ _ _ hs _ _=>hs) ⟨⟨_,hbo,World.ownsRow_nil _ _ _ _,trivial⟩,hb0,Q5 _⟩ 3 (fun c=> #[.int .i64 c.kind, .string c.label, .slice c.ptr c.len c.cap]) 38 (fun _ _ h=>h.2.2) ?assign ?body ?done ?stop
 case assign=>
  intro l x W K hK;simp only [handed,XC.val,SJ,SK,SI,SL,SM,SN,SP];simp only [handed,XC.val,Act.gF,SJ,SK,SI,SL,SM,SN,SP] at hK
  gi_wp2
  exact hK
 case body=>
  rintro l pre x B W hl hrec ⟨⟨v,hv,hrow, -⟩,hB,hsz⟩ hBB hbB hlen;have hvc:=hv.cell;have hvf:=hv.frozen;have hle:=wL pre;have hNN:=HN.out;have hp0:=ax hbB 0;have hp1:=ax hbB 1;simp only [Rr,Su,Tc] at hp0 hp1;have HS:=Lib.hid (Cm pre x);have hxl:=x.hl;simp only [handed,Act.gF,SJ,SK,SI,SL,SM,SN,SP]
  by_cases hh:x.kind=1
  ·have HH:=Lib.hid hh;have HV:=Lib.hid hv;have HR:=Lib.hid hrow;have HB:=Lib.hid hB;have HZ:=Lib.hid hsz;clear hv hrow hB hsz
   gi_wp2_with (gi_at_builtin;refine wpListIn_append_own _ rfl _ _ 43 rfl w.heap.size 9 i0 (.string ⟨#[]⟩) 1 16 Tryz.underlying43 HI.out.1 HI.out.2.1 HI.out.2.2.1 HI.out.2.2.2 rfl (by decide) _ _ _ rfl (HR.out.alloc _) ⟨W.heap.size,0,none⟩ 1 1 [.string x.label] rfl rfl (cell_one_new _ _ _) (by simp [Value.oneCell']) (by unfold maxLen;omega) (by omega) (by have:=HB.out.size;simp;omega) ?_;intro v' w1' hown' hgrow _;obtain ⟨g',cap',rfl⟩:=ownsRow_succ hown';obtain ⟨hv1,hv2,hr2,hk2,hb2⟩:=HV.out.appended (by decide) HR.out HB.out.size (T2 _) hown' hgrow;have HKP:=Lib.hid (lq (hi:=w.heap.size+2) HR.out hgrow (T2 _) (Nat.lt_succ_self _) (.slice (some ⟨g',0,none⟩) ((lN pre).length+1) cap'));have hc1:=hv1.cell;have hf1:=hv1.frozen;have HV2:=Lib.hid hv2;have HR2:=Lib.hid hr2;have HK2:=Lib.hid hk2;have HB2:=Lib.hid hb2;clear hv1 hv2 hr2 hk2 hb2 hown' hgrow)
   refine ⟨HK2.out.from _,HKP.out,⟨_,HV2.out, ?_,trivial⟩,HB.out.trans HB2.out,Nat.le_trans HZ.out HK2.out.size⟩;rw [HS.out,if_pos HH.out];simpa using HR2.out
  ·have HH:=Lib.hid hh;have HV:=Lib.hid hv;have HR:=Lib.hid hrow;have HB:=Lib.hid hB;have HZ:=Lib.hid hsz;clear hv hrow hB hsz
   gi_wp2
   refine ⟨KeepsFrom.refl _ _,Kept.refl _ _ _ _,⟨v,HV.out, ?_,trivial⟩,HB.out,HZ.out⟩;rw [HS.out,if_neg HH.out];exact HR.out
 case done=>
  rintro D xs W hD hS ⟨⟨v,hv,hrow, -⟩,hB,hsz⟩ hK;rw [HE.out xs hS] at hrow
  have hne: ¬w.heap.size+1=D:=by omega
  have hvc:=hv.cell;have hvf:=hv.frozen;have hob:W.heap[w.heap.size+1]? = some (.cells #[v] 43 (0,0)):=hv
  have hlen:(cB (.mk k s kids)).length<=1000000:=by
   rw [<-HE.out xs hS];have h1:=wL xs;have h2:=HN.out
   have h3:xs.length=(az (.mk k s kids)).length:=by simpa using congrArg List.length hS
   omega
  have HBw:=Lib.hid hB;have HKw:=Lib.hid hK
  have hD2:w1.heap.size+1<=D:=by omega
  clear hB hK hS hsz hs0 hb01 hb0 hbo hseq
  rcases hrow.2 with ⟨rfl,hz⟩|⟨g,cap,cur,rfl,hgb,hgh,r1,r2,r3,r4⟩
  ·have hnil:cB (.mk k s kids)=[]:=List.eq_nil_of_length_eq_zero hz;have HNil:=Lib.hid hnil;have HOb:=Lib.hid hob;clear hrow hv hob hnil hz
   gi_wp2_with fail
   refine ⟨trivial,(callsIn_wide.2 (AnyM.slices_Sort_string_none kT none 0 _)).mono ?_⟩;rintro e w2 ⟨rfl,rfl⟩
   gi_wp2_with fail
   refine ⟨trivial,(callsIn_wide.2 (Any.slices_Compact_string_empty vV none 0 _)).mono ?_⟩;rintro e w2 ⟨rfl,rfl⟩
   gi_wp2_with fail
   have hKs:=c9 HKw.out (b:=w.heap.size+1) (o:=0) (.slice none 0 0) (by omega);refine ⟨by simp, .inl ⟨_,_,rfl,run_takeDeferred hKs, ?_⟩⟩;have hbx:=c8 (fQ HOb.out (.slice none 0 0)) (.deferred none) (D:=D) hne;have hcf:=ax hbx 0;simp only [Rr,Su] at hcf
   refine ⟨.slice none 0 0, ?_,_,rfl, ?_, ?_,fun b off n c e=>by cases e⟩
   ·simp [results,Tryz.results113,go_sem,hcf]
   ·have:dZ (.mk k s kids)=[]:=by rw [dZ,nB,HNil.out,List.map_nil,List.mergeSort_nil];rfl
    rw [this];exact .inl ⟨.inl rfl,rfl⟩
   ·exact ic (HBw.out.setCell (p:=⟨w.heap.size+1,0,none⟩) (T2 _) _) (by omega) _ hKs
  ·obtain ⟨nm,hnm⟩: ∃nm:List (List UInt8),(cB (.mk k s kids)).map (fun s=>s.data.toList)=nm:=⟨_,rfl⟩
   have hl1:(cB (.mk k s kids)).length=nm.length:=by rw [<-hnm,R5]
   have hen:(cB (.mk k s kids)).map Value.string=nm.map encStr:=by
    rw [<-hnm,List.map_map];exact List.map_congr_left fun p _=>by simp [encStr]
   have hU:nB (.mk k s kids)=Go.Lib.compact (nm.mergeSort (fun x y=>decide (x<=y))):=by rw [nB,hnm]
   rw [hl1] at hlen;simp only [hl1,hen] at r1 r4 hvc hv hob hrow;rw [Nat.mul_one] at r4;have hgl:g<W.heap.size:=(Q8.1 hgh).1
   have hgo:w.heap.size+1≠g:=fun e=>by
    subst e;rw [hob] at hgh;cases hgh
   have hgD:D≠g:=fun e=>by
    subst e;have:=HKw.out;rw [this] at hgh;cases hgh
   have hH:=holds_of_block hgh r4;have CS:=Lib.hid (AnyM.slices_Sort_string kT g 0 cap nm W hH hgl (by omega));have HOb:=Lib.hid hob;have HG:=Lib.hid hgh;have HR:=Lib.hid (show _∧_∧_ from ⟨r1,r2,r3⟩);have HU:=Lib.hid hU;clear hrow hv hob hH r4 hnm hen hU r1 r2 r3 hgh;simp only [hl1];clear hl1
   gi_wp2_with fail
   refine ⟨trivial,(callsIn_wide.2 CS.out).mono ?_⟩;rintro e w2 ⟨rfl,kk,os,rfl⟩;obtain ⟨r1,r2,r3⟩:=HR.out;have hg2:=heap_sorted (n:=kk) (os:=os) (nm.mergeSort (fun x y=>decide (x<=y))).toArray HG.out;have hgr2:=grownBy_sorted (w:=W) (g:=g) (n:=kk) (os:=os) (nm.mergeSort (fun x y=>decide (x<=y))).toArray;have hls:(nm.mergeSort (fun x y=>decide (x<=y))).length=nm.length:=List.length_mergeSort _;have htk:=take_putCells cur (nm.mergeSort (fun x y=>decide (x<=y))) (by rw [hls,r3];omega)
   have hsz2:(putCells encStr 0 (nm.mergeSort (fun x y=>decide (x<=y))).toArray cur).size=cap:=by simp [putCells,r3]
   have hDl:D<W.heap.size:=(Q8.1 HKw.out).1;generalize hW2:Go.Sort.grow (putRow encStr (Go.Sort.ahead W kk) g 0 (nm.mergeSort (fun x y=>decide (x<=y))).toArray) os=W2 at *;have hob2:W2.heap[w.heap.size+1]? = some (.cells #[.slice (some ⟨g,0,none⟩) nm.length cap] 43 (0,0)):=(hgr2.block _ (Q8.1 HOb.out).1 (by simpa using hgo)).trans HOb.out;have hD3:W2.heap[D]? = some (.deferred (some [])):=(hgr2.block _ hDl (by simpa using hgD)).trans HKw.out;have hB2:Below w.heap.size w W2:=HBw.out.grown hgr2 HBw.out.size (fun j e=>by cases e;exact hgb);have hc2:=ax hob2 0;have hf2:=cK hob2 0;simp only [Rr,Su] at hc2;have hH2:=holds_of_block hg2 htk;have CC:=Lib.hid (Any.slices_Compact_string vV g 0 cap (nm.mergeSort (fun x y=>decide (x<=y))) W2 hH2 (by omega) (by omega));rw [hls] at CC;have HG2:=Lib.hid hg2;have HOb2:=Lib.hid hob2;have HD3:=Lib.hid hD3;have HB2:=Lib.hid hB2;have HS2:=Lib.hid hsz2;clear hg2 hgr2 htk hsz2 hW2 hob2 hD3 hB2 hH2 HOb HG HKw HBw CS hvc hvf
   gi_wp2_with fail
   refine ⟨trivial,(callsIn_wide.2 CC.out).mono ?_⟩;rintro e w3 ⟨rfl,q,rfl⟩
   have hcl:(nB (.mk k s kids)).length<=nm.length:=by rw [HU.out, <- hls];exact Go.Lib.compact_length_le _
   rw [<-HU.out];generalize hZ:(nB (.mk k s kids)++List.replicate (nm.length - (nB (.mk k s kids)).length) ([]:List UInt8))=Z
   have hZl:Z.length=nm.length:=by rw [<-hZ,List.length_append,List.length_replicate];omega
   have hg3:=heap_sorted (n:=q) (os:= #[]) Z.toArray HG2.out;have hgr3:=grownBy_sorted (w:=W2) (g:=g) (n:=q) (os:= #[]) Z.toArray;have htk:=take_putCells (putCells encStr 0 (nm.mergeSort (fun x y=>decide (x<=y))).toArray cur) Z (by rw [hZl,HS2.out];omega);rw [grow_empty] at hg3 hgr3;have hDl:D<W2.heap.size:=(Q8.1 HD3.out).1;generalize putRow encStr (Go.Sort.ahead W2 q) g 0 Z.toArray=W3 at *;have hob3:W3.heap[w.heap.size+1]? = some (.cells #[.slice (some ⟨g,0,none⟩) nm.length cap] 43 (0,0)):=(hgr3.block _ (Q8.1 HOb2.out).1 (by simpa using hgo)).trans HOb2.out;have hD4:W3.heap[D]? = some (.deferred (some [])):=(hgr3.block _ hDl (by simpa using hgD)).trans HD3.out;have hB3:Below w.heap.size w W3:=HB2.out.grown hgr3 HB2.out.size (fun j e=>by cases e;exact hgb);have hc3:=ax hob3 0;have hf3:=cK hob3 0;simp only [Rr,Su] at hc3;have HG3:=Lib.hid hg3;have HOb3:=Lib.hid hob3;have HD4:=Lib.hid hD4;have HB3:=Lib.hid hB3;have HT:=Lib.hid htk;have HZ:=Lib.hid hZ;have HZl:=Lib.hid hZl;clear hg3 hgr3 htk hob3 hD4 hB3 hZ hZl hc2 hf2
   gi_wp2_with fail
   have hKs:=c9 HD4.out (b:=w.heap.size+1) (o:=0) (.slice (some ⟨g,0,none⟩) (nB (.mk k s kids)).length cap) (by omega);refine ⟨by simp, .inl ⟨_,_,rfl,run_takeDeferred hKs, ?_⟩⟩;have hbx:=c8 (fQ HOb3.out (.slice (some ⟨g,0,none⟩) (nB (.mk k s kids)).length cap)) (.deferred none) (D:=D) hne;have hcf:=ax hbx 0;simp only [Rr,Su] at hcf
   refine ⟨.slice (some ⟨g,0,none⟩) (nB (.mk k s kids)).length cap, ?_,_,rfl, ?_, ?_,fun b off n c e=>by cases e;exact hgb⟩
   ·simp [results,Tryz.results113,go_sem,hcf]
   ·have hg4:=c8 (c9 HG3.out (b:=w.heap.size+1) (o:=0) (.slice (some ⟨g,0,none⟩) (nB (.mk k s kids)).length cap) hgo.symm) (.deferred none) (D:=D) hgD.symm;refine .inr ⟨g,0,cap,by rw [dZ,R5],by rw [dZ,R5];omega,r2,fun i x hx=>⟨[.string x],rfl, ?_,trivial⟩⟩;rw [ax hg4]
    have hi:i<(nB (.mk k s kids)).length:=by simpa [dZ] using (List.getElem?_eq_some_iff.1 hx).1
    have e1:=congrArg (fun l:List Value=>l[i]?) HT.out
    have hZi:Z[i]? = some (nB (.mk k s kids))[i]:=by rw [<-HZ.out,List.getElem?_append_left hi,Rp hi]
    rw [HZl.out,List.getElem?_take_of_lt (by omega),Array.getElem?_toList,List.getElem?_map,hZi] at e1;rw [Nat.zero_add,Nat.mul_one,e1];rw [dZ,List.getElem?_map,Rp hi] at hx;simp only [Option.map_some,Option.some.injEq] at hx;simp [encStr, <- hx]
   ·exact ic (HB3.out.setCell (p:=⟨w.heap.size+1,0,none⟩) (T2 _) _) (by omega) _ hKs
 case stop=>
  rintro D c pre W _ _ h _;exact h.elim
end
section
section
open Go.Lib
theorem LI {α:Type} [Inhabited α] [DecidableEq α] {le:α->α->Prop} (tr: ∀a b c,le a b->le b c->le a c) (an: ∀a b,le a b->le b a->a=b) (rf: ∀a,le a a) (d:Array α) (hs: ∀i j,i<=j->j<d.size->le d[i]! d[j]!) :
  ∀m,m<=d.size->(compactUpTo d m).Pairwise (fun a b=>le a b∧a≠b)∧(∀x,x∈compactUpTo d m ↔ ∃j,j<m∧x=d[j]!)∧ ∀x,x∈compactUpTo d m->le x d[m - 1]!
 | 0,_=>⟨by simp [compactUpTo],fun x=>by simp [compactUpTo],fun x h=>by simp [compactUpTo] at h⟩
 | m+1,hm=>by
  obtain ⟨h1,h2,h3⟩:=LI tr an rf d hs m (by omega);rw [compactUpTo_succ]
  have hle: ∀x,x∈compactUpTo d m->le x d[m]! :=fun x hx=>by
   rcases Nat.eq_zero_or_pos m with e|e
   ·subst e;simp [compactUpTo] at hx
   ·exact tr _ _ _ (h3 x hx) (hs (m - 1) m (by omega) (by omega))
  by_cases hk:keeps d m=true
  ·rw [if_pos hk]
   refine ⟨?_,fun x=> ?_,fun x hx=> ?_⟩
   ·rw [List.pairwise_append];refine ⟨h1,by simp,fun a ha b hb=> ?_⟩;simp only [SZ,S0,or_false] at hb;subst hb;refine ⟨hle a ha,fun e=> ?_⟩
    rcases Nat.eq_zero_or_pos m with q|q
    ·subst q;simp [compactUpTo] at ha
    ·have hne:d[m]! ≠ d[m - 1]! :=by
      simp only [keeps,decide_eq_true_eq] at hk
      rcases hk with hk|hk
      ·omega
      ·exact hk
     have h4:=h3 a ha;have h5:=hs (m - 1) m (by omega) (by omega);rw [e] at h4;exact hne (an _ _ h4 h5)
   ·simp only [List.mem_append,SZ,S0,or_false,h2 x]
    constructor
    ·rintro (⟨j,hj,rfl⟩|rfl)
     ·exact ⟨j,by omega,rfl⟩
     ·exact ⟨m,by omega,rfl⟩
    ·rintro ⟨j,hj,rfl⟩
     rcases Rc j m with q|q
     ·exact .inl ⟨j,q,rfl⟩
     ·obtain rfl:j=m:=by omega
      exact .inr rfl
   ·rw [Nat.add_sub_cancel];simp only [List.mem_append,SZ,S0,or_false] at hx
    rcases hx with hx|rfl
    ·exact hle x hx
    ·exact rf _
  ·rw [if_neg hk,T3]
   have hm0:m≠0∧d[m]! = d[m - 1]! :=by
    simp only [keeps,decide_eq_true_eq] at hk;exact ⟨fun e=>hk (.inl e),TR fun e=>hk (.inr e)⟩
   refine ⟨h1,fun x=> ?_,fun x hx=>by rw [Nat.add_sub_cancel];exact hle x hx⟩;rw [h2 x]
   constructor
   ·rintro ⟨j,hj,rfl⟩;exact ⟨j,by omega,rfl⟩
   ·rintro ⟨j,hj,rfl⟩
    rcases Rc j m with q|q
    ·exact ⟨j,q,rfl⟩
    ·obtain rfl:j=m:=by omega
     exact ⟨j - 1,by omega,hm0.2⟩
theorem pF (l:List (List UInt8)):(Go.Lib.compact (l.mergeSort (fun x y=>decide (x<=y)))).Pairwise (fun a b=>a<b)∧ ∀x,x∈Go.Lib.compact (l.mergeSort (fun x y=>decide (x<=y)))↔x∈l:=by
 have hsort:(l.mergeSort (fun x y=>decide (x<=y))).Pairwise (fun x y=>decide (x<=y)=true):=List.pairwise_mergeSort (fun a b c h1 h2=>by simp only [decide_eq_true_eq] at *; exact List.le_trans h1 h2) (fun a b=>by simp only [Bool.or_eq_true,decide_eq_true_eq];exact List.le_total a b) _;have hperm:=List.mergeSort_perm l (fun x y=>decide (x<=y));generalize l.mergeSort (fun x y=>decide (x<=y))=s at hsort hperm
 have hs: ∀i j,i<=j->j<s.toArray.size->s.toArray[i]! <= s.toArray[j]! :=fun i j hij hj=>by
  have hj':j<s.length:=by simpa using hj
  have hi':i<s.length:=by omega
  rw [getElem!_pos s.toArray i (by simpa using hi'),getElem!_pos s.toArray j hj];simp only [List.getElem_toArray]
  rcases Rc i j with q|q
  ·have:=List.pairwise_iff_getElem.1 hsort i j hi' hj' q
   simpa using this
  ·obtain rfl:i=j:=by omega
   exact List.le_refl _
 obtain ⟨h1,h2,_⟩:=LI (le:=fun a b:List UInt8=>a<=b) (fun _ _ _=>List.le_trans) (fun _ _=>List.le_antisymm) (fun _=>List.le_refl _) s.toArray hs s.length (by simp)
 refine ⟨?_,fun x=> ?_⟩
 ·show (compactUpTo s.toArray s.length).Pairwise _;refine h1.imp fun {a b} ⟨q1,q2⟩=> ?_;exact TR fun h=>q2 (List.le_antisymm q1 (List.not_lt.1 h))
 ·show x∈compactUpTo s.toArray s.length↔_;rw [h2 x, <- hperm.mem_iff]
  constructor
  ·rintro ⟨j,hj,rfl⟩;rw [getElem!_pos s.toArray j (by simpa using hj)];simp
  ·intro hx;obtain ⟨j,hj,rfl⟩:=List.getElem_of_mem hx;exact ⟨j,hj,by rw [getElem!_pos s.toArray j (by simpa using hj)];simp⟩
end
theorem nC (x:Ex):l7 (dZ x):=by
 rw [l7,dZ,List.pairwise_map]
 exact (pF _).1.imp fun h=>by simpa using h
theorem mn {x:Ex} {s:ByteArray}:s∈dZ x↔s∈cB x:=by
 rw [dZ,T4]
 constructor
 ·rintro ⟨l,h,rfl⟩
  have:=((pF _).2 l).1 h
  obtain ⟨t,h1,rfl⟩:=T4.1 this;simpa using h1
 ·intro h;exact ⟨s.data.toList,((pF _).2 _).2 (List.mem_map_of_mem h),by simp⟩
theorem ui (x:Ex):(dZ x).Nodup:=oY (nC x)
theorem EV (x:Ex):(dZ x).length<=(cB x).length:=(ui x).length_le_of_subset fun _ h=>mn.1 h
theorem qi {x:Ex} (h:Fit x):((az x).filter (fun y=>y.kind==1)).map Ex.label=cB x:=by
 induction h with
 | lab s=>simp [az,b8,cB,Ex.kind,Ex.label]
 | many k s l hk hl hf ih=>
  have hk1: ¬k=1:=by rcases hk with rfl|rfl<;>decide
  rw [az,b8,fY hk1,T5 (by simpa [Ex.kind] using hk1)];clear hl hf
  induction l with
  | nil=>rfl
  | cons a l ih2=>
   rw [List.flatMap_cons,List.filter_append,List.map_append,bp,ih a (by simp),ih2 (fun y hy=>ih y (by simp [hy]))]
 | one k s x hk hf ih=>
  have hk1: ¬k=1:=by rcases hk with rfl|rfl|rfl<;>decide
  rw [az,b8,fY hk1,T5 (by simpa [Ex.kind] using hk1),List.flatMap_cons,List.flatMap_nil,T3,ih,bp,bp,T3]
theorem y5 {x:Ex} (h:Fit x) (L:List XC) (e:L.map XC.sig=(az x).map Ex.sig):lN L=cB x:=by
 rw [<-qi h]
 have h1:lN L=((L.map XC.sig).filter (fun c=>c.1==1)).map (fun c=>c.2.1):=by
  rw [lN,List.filter_map,List.map_map];rfl
 have h2:((az x).filter (fun y=>y.kind==1)).map Ex.label=(((az x).map Ex.sig).filter (fun c=>c.1==1)).map (fun c=>c.2.1):=by
  have e1:((fun c:Int×ByteArray×Nat=>c.1==1) ∘ Ex.sig)=fun y=>y.kind==1:=by funext y;cases y;rfl
  have e2:((fun c:Int×ByteArray×Nat=>c.2.1) ∘ Ex.sig)=Ex.label:=by funext y;cases y;rfl
  rw [List.filter_map,List.map_map,e1,e2]
 rw [h1,h2,e]
theorem EY (x:Ex) (h:x.ok) (hr:aT x=true):ag Tryz.prog 113 [.agg (bg x)] (aK (dZ x)):=
 .uz (by kernel_rfl) (by simp only [bn,AV.wf,kE,Tg]) (fun D nu w vargs hh=>by
  obtain ⟨a,rfl,ha⟩:=dK hh;obtain ⟨ca,rfl,ka⟩:=lS ha
  have hp:(az x).length<=1000000:=by
   have:=hr
   simp only [aT,RY,decide_eq_true_eq] at this;omega
  exact y6 x ca w (qP x ca ka) h hr hp (y5 (s9 hr).1))
theorem wM {x:Ex} (hr:aT x=true) {l:ByteArray} (h:l∈cB x):dp l=true:=by
 rw [<-qi (s9 hr).1,T4] at h;obtain ⟨y,hy,rfl⟩:=h;rw [List.mem_filter] at hy
 have hp:y.part=true:=by
  simp only [aT,RY,List.all_eq_true] at hr;exact hr.2 y hy.1
 obtain ⟨k,s,kids⟩:=y
 have hk:k=1:=by simpa [Ex.kind] using hy.2
 subst hk;simp only [Ex.part,bT,BEq.rfl,if_true,RY] at hp;exact hp.2
theorem B7 {s:ByteArray} (h:dp s=true):s.size<=20:=by
 simp only [dp,kC,RY,decide_eq_true_eq] at h;exact h.1.1.2
theorem Hm {s:ByteArray} (h:dp s=true):32∉s.data.toList:=fun hm=>by
 simp only [dp,kC,RY,List.all_eq_true] at h
 have:=h.1.1.1.1 32 hm
 revert this;decide
theorem Hy {x:Ex} (hr:aT x=true): ∀l∈dZ x,32∉l.data.toList:=fun l hl=>Hm (wM hr (mn.1 hl))
theorem Hz {x:Ex} (hr:aT x=true): ∀l∈dZ x,l.size<=20:=fun l hl=>B7 (wM hr (mn.1 hl))
theorem EW {x:Ex} (hr:aT x=true):(dZ x).length<=24:=by
 have N:=wT hr
 have:=EV x
 have:=N.ok.n
 rw [N.ai] at this;omega
theorem Ks {x:Ex} (hr:aT x=true) {st:oN} (h:tg x (dZ x)=some st):Of st.rows st.ends∧0<st.rows.length∧(fG st.rows st.ends).length=st.rows.length:=by
 obtain ⟨ho,hl,hw⟩:=IL (c6 (ja x)) (ja x).em (ay (ja x).la) (ui x) h;have hz0:(st.all)[0]? = some [0]:=hw.zero
 have hpos:0<st.rows.length:=by rw [hl];exact (List.getElem?_eq_some_iff.1 hz0).1
 have hT:=Dd ho hl;obtain ⟨_,hpl⟩:=zl st.rows st.ends (Db (Hy hr) ho) hT hpos ho.ends
 refine ⟨⟨by have:=ho.max;omega,ho.ends,fun r hr'=>(nC x).sublist (ho.row r hr').1,fun r hr'=> ?_,fun r hr' p hp=>⟨?_,hT r hr' p hp⟩⟩,hpos,hpl⟩
 ·have:=(ho.row r hr').1.length_le
  have:=EW hr
  simp only [List.length_map] at *; omega
 ·have:=Hz hr _ ((ho.row r hr').1.subset (List.mem_map_of_mem hp));omega
def nU (A:Gk):List AV:=gV A.rows A.ends++[aK A.ai]
theorem xW (n:Nat) (A:Gk):bn n (nU A)=true:=by simp only [nU,gV,aK,Tl,Tm,bn,AV.wf,mQ,mP,aA,Tg]
theorem JU (A:Gk):ag Tryz.prog 116 [.vp (nU A)] (.v (.int .i64 A.rows.length)):=by
 simp only [nU,gV,aK,Tl,Tm]
 (refine ag.enter Tryz.func116 rfl (by kernel_rfl) (by kernel_rfl) rfl (by first|rfl|(simp only [go_sem,Tg,SA,SD])) (by first|rfl|(simp only [go_sem,Tg,SA,SD])) ?_;simp only [Tryz.ntmps116,Tryz.results116,Rg,Q9,Nat.reduceAdd,Nat.reduceSub,Ti,Tj,Tl,Tm])
 repeat (first|(with_reducible first|refine af.up ?_|refine fun (K:AK) hK=> ?_|(refine hK _ ?_;clear hK K))|simp only [go_sem]|clear hK K)
noncomputable def Cs (x:Ex):AV:=match Ae x (dZ x) with
 | .inl A=> .dC [.vp (nU A), .v (.int .i64 0)]
 | .inr e=> .dC [.v (.pointer none), .v (.int .i64 e)]
theorem AZ (x:Ex):(Cs x).wf 0=true:=by
 unfold Cs
 split
 ·simp only [AV.wf,bn,xW,Tg]
 ·rfl
theorem JV (x:Ex) (ho:x.ok):ag Tryz.prog 70 [.agg (bg x)] (Cs x):=by
 have CN:=LV x ho;have hF:=AZ x
 have hu:Cs x=(if aT x then (match tg x (dZ x) with
  | some st=>if 32<(jx (dZ x) st).rows.length then .dC [.v (.pointer none), .v (.int .i64 11)] else .dC [.vp (nU (jx (dZ x) st)), .v (.int .i64 0)]
  | none=> .dC [.v (.pointer none), .v (.int .i64 11)]) else .dC [.v (.pointer none), .v (.int .i64 2)]):=by
  unfold Cs Ae
  cases aT x
  ·rfl
  ·simp only [if_true]
   cases tg x (dZ x) with
   | none=>rfl
   | some st=>
    by_cases h32:32<(jx (dZ x) st).rows.length
    ·simp only [if_pos h32]
    ·simp only [if_neg h32]
 rw [hu] at hF ⊢;clear hu
 cases hr:aT x
 ·rw [hr] at CN hF;simp only [Bool.false_eq_true,if_false] at CN hF ⊢;simp only [bI] at *
  (refine ag.enter Tryz.func70 rfl (by kernel_rfl) (by kernel_rfl) rfl (by first|rfl|(simp only [go_sem,Tg,SA,SD])) (by first|rfl|(simp only [go_sem,Tg,SA,SD])) ?_;simp only [Tryz.ntmps70,Tryz.results70,Rg,Q9,Nat.reduceAdd,Nat.reduceSub,Ti,Tj,Tl,Tm])
  repeat (first|(with_reducible first|refine af.up ?_|refine fun (K:AK) hK=> ?_|(refine hK _ ?_;clear hK K))|simp only [go_sem]|clear hK K)
  refine ab.one CN ?_
  repeat (first|(with_reducible first|refine af.up ?_|refine fun (K:AK) hK=> ?_|(refine hK _ ?_;clear hK K))|simp only [go_sem]|clear hK K)
  (refine kY.of 40 rfl ?_;simp only [go_sem])
 ·have CL:=EY x ho hr;rw [hr] at CN hF;simp only [if_true] at CN hF ⊢;have ok:=(wT hr).ok;have hln:=EW hr;have CS:=Kr ok (dZ x) (ui x) (by omega) (lH _).2;have hS:tf (c6 (ja x)) (ja x).em (ay (ja x).la) (dZ x)=tg x (dZ x):=rfl;rw [hS] at CS
  cases hst:tg x (dZ x) with
  | none=>
   rw [hst] at CS hF;simp only [oz] at CS;simp only [bI,aK] at *
   (refine ag.enter Tryz.func70 rfl (by kernel_rfl) (by kernel_rfl) rfl (by first|rfl|(simp only [go_sem,Tg,SA,SD])) (by first|rfl|(simp only [go_sem,Tg,SA,SD])) ?_;simp only [Tryz.ntmps70,Tryz.results70,Rg,Q9,Nat.reduceAdd,Nat.reduceSub,Ti,Tj,Tl,Tm])
   repeat (first|(with_reducible first|refine af.up ?_|refine fun (K:AK) hK=> ?_|(refine hK _ ?_;clear hK K))|simp only [go_sem]|clear hK K)
   refine ab.one CN ?_
   repeat (first|(with_reducible first|refine af.up ?_|refine fun (K:AK) hK=> ?_|(refine hK _ ?_;clear hK K))|simp only [go_sem]|clear hK K)
   refine ab.one CL ?_
   repeat (first|(with_reducible first|refine af.up ?_|refine fun (K:AK) hK=> ?_|(refine hK _ ?_;clear hK K))|simp only [go_sem]|clear hK K)
   refine ab.one CS ?_
   repeat (first|(with_reducible first|refine af.up ?_|refine fun (K:AK) hK=> ?_|(refine hK _ ?_;clear hK K))|simp only [go_sem]|clear hK K)
   (refine kY.of 40 rfl ?_;simp only [go_sem])
  | some st=>
   rw [hst] at CS hF;obtain ⟨g1,g2,g3⟩:=Ks hr hst;have CQ:=HM g1 g2 g3;have CZ:=JU (jx (dZ x) st);simp only [oz] at CS
   by_cases h32:32<(jx (dZ x) st).rows.length
   ·simp only [if_pos h32] at hF ⊢;simp only [bI,aK,nU,gA,jx,gV,Tl,Tm] at *;clear hF g1 g2 g3 hS hst;generalize iO st.rows st.ends (fG st.rows st.ends)=L at CQ CZ h32 ⊢
    (refine ag.enter Tryz.func70 rfl (by kernel_rfl) (by kernel_rfl) rfl (by first|rfl|(simp only [go_sem,Tg,SA,SD])) (by first|rfl|(simp only [go_sem,Tg,SA,SD])) ?_;simp only [Tryz.ntmps70,Tryz.results70,Rg,Q9,Nat.reduceAdd,Nat.reduceSub,Ti,Tj,Tl,Tm])
    repeat (first|(with_reducible first|refine af.up ?_|refine fun (K:AK) hK=> ?_|(refine hK _ ?_;clear hK K))|simp only [go_sem]|clear hK K)
    refine ab.one CN ?_
    repeat (first|(with_reducible first|refine af.up ?_|refine fun (K:AK) hK=> ?_|(refine hK _ ?_;clear hK K))|simp only [go_sem]|clear hK K)
    refine ab.one CL ?_
    repeat (first|(with_reducible first|refine af.up ?_|refine fun (K:AK) hK=> ?_|(refine hK _ ?_;clear hK K))|simp only [go_sem]|clear hK K)
    refine ab.one CS ?_
    repeat (first|(with_reducible first|refine af.up ?_|refine fun (K:AK) hK=> ?_|(refine hK _ ?_;clear hK K))|simp only [go_sem]|clear hK K)
    refine ab.one CQ ?_
    repeat (first|(with_reducible first|refine af.up ?_|refine fun (K:AK) hK=> ?_|(refine hK _ ?_;clear hK K))|simp only [go_sem]|clear hK K)
    refine ab.x5 CZ 20 rfl (by simp only [go_sem,Nat.reduceLT,Nat.reduceLeDiff,Nat.reduceEqDiff,Nat.lt_add_one,Nat.zero_lt_one,and_self]) rfl ?_
    repeat (first|(with_reducible first|refine af.up ?_|refine fun (K:AK) hK=> ?_|(refine hK _ ?_;clear hK K))|simp only [go_sem]|clear hK K)
    refine cL.part (fun h=> ?_) (fun h=> ?_)
    ·repeat (first|(with_reducible first|refine af.up ?_|refine fun (K:AK) hK=> ?_|(refine hK _ ?_;clear hK K))|simp only [go_sem]|clear hK K)
     (refine kY.of 40 rfl ?_;simp only [go_sem])
    ·exfalso;(try simp only [bne_iff_ne,ne_eq,bne_eq_false_iff_eq,beq_iff_eq,beq_eq_false_iff_ne,decide_eq_true_eq,decide_eq_false_iff_not,Tn,Int.natCast_inj,Int.ofNat_lt,Int.ofNat_le] at h);omega
   ·simp only [if_neg h32] at hF ⊢;simp only [bI,aK,nU,gA,jx,gV,Tl,Tm] at *;clear hF g1 g2 g3 hS hst;generalize iO st.rows st.ends (fG st.rows st.ends)=L at CQ CZ h32 ⊢
    (refine ag.enter Tryz.func70 rfl (by kernel_rfl) (by kernel_rfl) rfl (by first|rfl|(simp only [go_sem,Tg,SA,SD])) (by first|rfl|(simp only [go_sem,Tg,SA,SD])) ?_;simp only [Tryz.ntmps70,Tryz.results70,Rg,Q9,Nat.reduceAdd,Nat.reduceSub,Ti,Tj,Tl,Tm])
    repeat (first|(with_reducible first|refine af.up ?_|refine fun (K:AK) hK=> ?_|(refine hK _ ?_;clear hK K))|simp only [go_sem]|clear hK K)
    refine ab.one CN ?_
    repeat (first|(with_reducible first|refine af.up ?_|refine fun (K:AK) hK=> ?_|(refine hK _ ?_;clear hK K))|simp only [go_sem]|clear hK K)
    refine ab.one CL ?_
    repeat (first|(with_reducible first|refine af.up ?_|refine fun (K:AK) hK=> ?_|(refine hK _ ?_;clear hK K))|simp only [go_sem]|clear hK K)
    refine ab.one CS ?_
    repeat (first|(with_reducible first|refine af.up ?_|refine fun (K:AK) hK=> ?_|(refine hK _ ?_;clear hK K))|simp only [go_sem]|clear hK K)
    refine ab.one CQ ?_
    repeat (first|(with_reducible first|refine af.up ?_|refine fun (K:AK) hK=> ?_|(refine hK _ ?_;clear hK K))|simp only [go_sem]|clear hK K)
    refine ab.x5 CZ 20 rfl (by simp only [go_sem,Nat.reduceLT,Nat.reduceLeDiff,Nat.reduceEqDiff,Nat.lt_add_one,Nat.zero_lt_one,and_self]) rfl ?_
    repeat (first|(with_reducible first|refine af.up ?_|refine fun (K:AK) hK=> ?_|(refine hK _ ?_;clear hK K))|simp only [go_sem]|clear hK K)
    refine cL.part (fun h=> ?_) (fun h=> ?_)
    ·exfalso;(try simp only [bne_iff_ne,ne_eq,bne_eq_false_iff_eq,beq_iff_eq,beq_eq_false_iff_ne,decide_eq_true_eq,decide_eq_false_iff_not,Tn,Int.natCast_inj,Int.ofNat_lt,Int.ofNat_le] at h);omega
    ·repeat (first|(with_reducible first|refine af.up ?_|refine fun (K:AK) hK=> ?_|(refine hK _ ?_;clear hK K))|simp only [go_sem]|clear hK K)
     (refine kY.of 40 rfl ?_;simp only [go_sem])
def Pu (A:Gk) (s:Int):Bool:=decide (0<=s)&&decide (s<A.rows.length)&&A.ends.getD s.toNat false
def PZ (A:Gk) (s:Int) (l:ByteArray):Option Nat:=if 0<=s∧s<A.rows.length then look (A.rows.getD s.toNat []) l else none
theorem LH (l:List ByteArray) (hl:l.length<=1000000) (hne:l≠[]):bK Tryz.prog 75 [.aC 1 (l.map encS) l.length] [] (.vec 0 l.length) [some ⟨9,1,true,l.map encS⟩]:=by
 have hpos:0<l.length:=by cases l<;>simp_all
 have eL:(l.map encS).length=l.length:=by simp
 (refine bK.enter Tryz.func75 rfl (by kernel_rfl) (by kernel_rfl) rfl ?_;simp only [Tryz.ntmps75,Tryz.results75,Rg,Q9,Nat.reduceAdd,Nat.reduceSub,Ti,Tj,Tl,Tm])
 repeat (first|(with_reducible first|refine af.up ?_|refine fun (K:AK) hK=> ?_|(refine hK _ ?_;clear hK K))|simp only [go_sem,eL]|with_reducible refine wA ?_|clear hK K)
 refine ⟨fun e=>hne (by simpa using e), ?_⟩;have eT:(l.map encS).take l.length=l.map encS:=List.take_of_length_le (by omega)
 repeat (first|(with_reducible first|refine af.up ?_|refine fun (K:AK) hK=> ?_|(refine hK _ ?_;clear hK K))|simp only [go_sem,eL,eT]|with_reducible refine wA ?_|clear hK K)
 (refine ⟨?_, ?_, ?_⟩<;>simp only [aX,aW,AV.v.injEq,Value.int.injEq,Value.bool.injEq,Value.string.injEq,AV.vec.injEq,AV.ptr.injEq,true_or,or_true,false_or,or_false,aa.mk.injEq,forall_eq_apply_imp_iff,forall_eq,forall_eq',go_sem])
theorem LG:ag Tryz.prog 75 [.aC 1 [] 0] (.aC 1 [] 0):=by
 refine ⟨⟨rfl,rfl⟩,by kernel_rfl,fun D nu w vargs hro hra=> ?_⟩;obtain ⟨x,rfl,hx⟩:=dK hra;obtain ⟨a,c,rfl⟩:=FL hx
 have key:Calls Tryz.prog 75 #[.slice a 0 c] w (fun e w'=> ∃b,e = .returned (.slice b 0 0)∧Below w.heap.size w w'):=by
  have hq: ∀w,(binOp .eql 43 (.slice a 0 c) (.slice none 0 0)).run Tryz.prog w = .ok (.bool a.isNone) w:=fun w=>(jK (by kernel_rfl)).1;have HB:=Lib.hid (fun ob=>((Below.refl w.heap.size w).alloc (Nat.le_refl _) ob))
  cases a with
  | none=>
   clear hx hra hro
   go_enter Tryz.func75,Tryz.ntmps75
   go_wp2
   go_ret
   exact ⟨none,rfl, .refl _ _⟩
  | some a=>
   clear hx hra hro
   go_enter Tryz.func75,Tryz.ntmps75
   go_wp2
   go_ret
   exact ⟨some _,rfl,HB.out _⟩
 refine key.mono ?_;rintro e w' ⟨b,rfl,hb⟩;refine ⟨_,nu,[], .aC 1 [] 0,rfl,aw hb,hro.below hb, ?_,rfl,rfl⟩
 cases b with
 | none=>exact .bf 1
 | some b=>exact .bC 1 b
theorem Jj (l:List ByteArray) (hl:l.length<=1000000):ag Tryz.prog 75 [aK l] (aK l):=by
 by_cases h:l=[]
 ·subst h;exact LG
 ·exact (LH l hl h).MU 8 rfl ⟨by simp,by simp,aA _ _⟩ (by simp only [go_sem]) (aA _ _)
end
theorem qx (names to:List ByteArray) {k:Nat} (h:k<names.length):(names.take (k+1)).foldl aq to=aq ((names.take k).foldl aq to) names[k]:=by
 rw [List.take_succ_eq_append_getElem h,List.foldl_append];rfl
theorem qZ (to names:List ByteArray) (h1:to.length<=1000000) (h2:names.length<=1000000):bK Tryz.prog 58 [.vec 0 to.length, .vec 1 names.length] [some ⟨9,1,true,to.map encS⟩,some ⟨9,1,true,names.map encS⟩] (.vec 0 (names.foldl aq to).length) [some ⟨9,1,true,(names.foldl aq to).map encS⟩,some ⟨9,1,true,names.map encS⟩]:=by
 have eLn:(names.map encS).length=names.length:=by simp
 (refine bK.enter Tryz.func58 rfl (by kernel_rfl) (by kernel_rfl) rfl ?_;simp only [Tryz.ntmps58,Tryz.results58,Rg,Q9,Nat.reduceAdd,Nat.reduceSub,Ti,Tj,Tl,Tm])
 repeat (first|(with_reducible first|refine af.up ?_|refine fun (K:AK) hK=> ?_|(refine hK _ ?_;clear hK K))|simp only [go_sem]|with_reducible refine wA ?_|clear hK K)
 refine cV (ι:=Nat) 10 (fun k=>[(0, .vec 0 ((names.take k).foldl aq to).length),(6, .undef),(9, .v (.int .i64 k))]) (fun k=>[some ⟨9,1,true,((names.take k).foldl aq to).map encS⟩,some ⟨9,1,true,names.map encS⟩]) (fun k=>names.length - k) (fun k=>k<=names.length) 0 (Nat.zero_le _) ?_ ?_
 ·simp only [List.take_zero,SL]
  (refine ak ?_ ?_ ?_<;>simp only [aR,SI,SL,Ti,Tj,aX,aW,AV.v.injEq,Value.int.injEq,Value.bool.injEq,Value.string.injEq,AV.vec.injEq,AV.ptr.injEq,true_or,or_true,false_or,or_false,aa.mk.injEq,forall_eq_apply_imp_iff,forall_eq,forall_eq',go_sem])
  all_goals first|rfl|trace_state
 ·intro k hk K hK;have hlen:=ea (names.take k) to;have eW:=aD (k:=k) (by omega)
  by_cases hlt:k<names.length
  ·have e1:decide ((k:Int)<(names.length:Int))=true:=decide_eq_true (by omega);have eG:=getD_map encS names k [] hlt;have eS:=qx names to hlt;have C:=dR ((names.take k).foldl aq to) names[k];rw [aq] at eS;simp only [encS] at eG;simp only [aK] at C;rw [RB] at hlen;generalize (names.take k).foldl aq to=cur at *
   have eLc:(cur.map encS).length=cur.length:=by simp
   repeat (first|(with_reducible first|refine af.up ?_|refine fun (K:AK) hK=> ?_|(refine hK _ ?_;clear hK K))|simp only [go_sem,e1,eG]|with_reducible refine wA ?_|clear hK K)
   refine ab.x5 C 8 rfl (by simp only [go_sem,Nat.reduceLT,Nat.reduceLeDiff,Nat.reduceEqDiff,Nat.lt_add_one,Nat.zero_lt_one,and_self,aA]) rfl ?_
   cases hb:hasB cur names[k]
   ·rw [hb] at eS;simp only [Bool.false_eq_true,if_false] at eS
    have eA:cur.map encS++[[AV.v (.string names[k])]]=((names.take (k+1)).foldl aq to).map encS:=by rw [eS,List.map_append];rfl
    have eB:cur.length+1=((names.take (k+1)).foldl aq to).length:=by rw [eS];simp
    repeat (first|(with_reducible first|refine af.up ?_|refine fun (K:AK) hK=> ?_|(refine hK _ ?_;clear hK K))|simp only [go_sem,hb]|with_reducible refine wA ?_|clear hK K)
    repeat (first|(with_reducible first|refine af.up ?_|refine fun (K:AK) hK=> ?_|(refine hK _ ?_;clear hK K))|simp only [go_sem,eW]|with_reducible refine wA ?_|clear hK K)
    refine aM.mk (k+1) hlt (by omega) ?_;simp only [eA,eB]
    (refine ak ?_ ?_ ?_<;>simp only [aR,SI,SL,Ti,Tj,aX,aW,AV.v.injEq,Value.int.injEq,Value.bool.injEq,Value.string.injEq,AV.vec.injEq,AV.ptr.injEq,true_or,or_true,false_or,or_false,aa.mk.injEq,forall_eq_apply_imp_iff,forall_eq,forall_eq',go_sem])
    all_goals first|rfl|trace_state
   ·rw [hb] at eS;simp only [if_true] at eS
    repeat (first|(with_reducible first|refine af.up ?_|refine fun (K:AK) hK=> ?_|(refine hK _ ?_;clear hK K))|simp only [go_sem,hb]|with_reducible refine wA ?_|clear hK K)
    repeat (first|(with_reducible first|refine af.up ?_|refine fun (K:AK) hK=> ?_|(refine hK _ ?_;clear hK K))|simp only [go_sem,eW]|with_reducible refine wA ?_|clear hK K)
    refine aM.mk (k+1) hlt (by omega) ?_;simp only [eS]
    (refine ak ?_ ?_ ?_<;>simp only [aR,SI,SL,Ti,Tj,aX,aW,AV.v.injEq,Value.int.injEq,Value.bool.injEq,Value.string.injEq,AV.vec.injEq,AV.ptr.injEq,true_or,or_true,false_or,or_false,aa.mk.injEq,forall_eq_apply_imp_iff,forall_eq,forall_eq',go_sem])
    all_goals first|rfl|trace_state
  ·have hkn:k=names.length:=by omega
   have e1:decide ((k:Int)<(names.length:Int))=false:=decide_eq_false (by omega);rw [hkn] at e1;rw [hkn,Tr]
   repeat (first|(with_reducible first|refine af.up ?_|refine fun (K:AK) hK=> ?_|(refine hK _ ?_;clear hK K))|simp only [go_sem,e1]|with_reducible refine wA ?_|clear hK K)
   (refine ⟨?_, ?_, ?_⟩<;>simp only [aX,aW,AV.v.injEq,Value.int.injEq,Value.bool.injEq,Value.string.injEq,AV.vec.injEq,AV.ptr.injEq,true_or,or_true,false_or,or_false,aa.mk.injEq,forall_eq_apply_imp_iff,forall_eq,forall_eq',go_sem])
   all_goals first|rfl|trace_state
theorem nN (names:List ByteArray) (h2:names.length<=1000000):bK Tryz.prog 58 [.v (.slice none 0 0), .vec 0 names.length] [some ⟨9,1,true,names.map encS⟩] (.vec 1 (names.foldl aq []).length) [some ⟨9,1,true,names.map encS⟩,some ⟨9,1,true,(names.foldl aq []).map encS⟩]:=by
 have eLn:(names.map encS).length=names.length:=by simp
 (refine bK.enter Tryz.func58 rfl (by kernel_rfl) (by kernel_rfl) rfl ?_;simp only [Tryz.ntmps58,Tryz.results58,Rg,Q9,Nat.reduceAdd,Nat.reduceSub,Ti,Tj,Tl,Tm])
 repeat (first|(with_reducible first|refine af.up ?_|refine fun (K:AK) hK=> ?_|(refine hK _ ?_;clear hK K))|simp only [go_sem]|with_reducible refine wA ?_|clear hK K)
 refine dG (ι:=Nat) 0 9 1 rfl (by decide) 10 (fun k=>[(0, .vec 1 ((names.take k).foldl aq []).length),(6, .undef),(9, .v (.int .i64 k))]) (fun k=>[some ⟨9,1,true,names.map encS⟩,some ⟨9,1,true,((names.take k).foldl aq []).map encS⟩]) (fun k=>names.length - k) (fun k=>k<=names.length) 0 (Nat.zero_le _) ?_ ?_
 ·simp only [List.take_zero,SL]
  (refine ak ?_ ?_ ?_<;>simp only [aR,SI,SL,Ti,Tj,aX,aW,AV.v.injEq,Value.int.injEq,Value.bool.injEq,Value.string.injEq,AV.vec.injEq,AV.ptr.injEq,true_or,or_true,false_or,or_false,aa.mk.injEq,forall_eq_apply_imp_iff,forall_eq,forall_eq',go_sem])
  all_goals first|rfl|trace_state
 ·intro k hk K hK;have hlen:=ea (names.take k) [];have eW:=aD (k:=k) (by omega)
  by_cases hlt:k<names.length
  ·have e1:decide ((k:Int)<(names.length:Int))=true:=decide_eq_true (by omega);have eG:=getD_map encS names k [] hlt;have eS:=qx names [] hlt;have C:=dR ((names.take k).foldl aq []) names[k];rw [aq] at eS;simp only [encS] at eG;simp only [aK] at C;rw [RB] at hlen;simp only [Q9,Nat.zero_add] at hlen;generalize (names.take k).foldl aq []=cur at *
   have eLc:(cur.map encS).length=cur.length:=by simp
   repeat (first|(with_reducible first|refine af.up ?_|refine fun (K:AK) hK=> ?_|(refine hK _ ?_;clear hK K))|simp only [go_sem,e1,eG]|with_reducible refine wA ?_|clear hK K)
   refine ab.x5 C 8 rfl (by simp only [go_sem,Nat.reduceLT,Nat.reduceLeDiff,Nat.reduceEqDiff,Nat.lt_add_one,Nat.zero_lt_one,and_self,aA]) rfl ?_
   cases hb:hasB cur names[k]
   ·rw [hb] at eS;simp only [Bool.false_eq_true,if_false] at eS
    have eA:cur.map encS++[[AV.v (.string names[k])]]=((names.take (k+1)).foldl aq []).map encS:=by rw [eS,List.map_append];rfl
    have eB:cur.length+1=((names.take (k+1)).foldl aq []).length:=by rw [eS];simp
    repeat (first|(with_reducible first|refine af.up ?_|refine fun (K:AK) hK=> ?_|(refine hK _ ?_;clear hK K))|simp only [go_sem,hb]|with_reducible refine wA ?_|clear hK K)
    repeat (first|(with_reducible first|refine af.up ?_|refine fun (K:AK) hK=> ?_|(refine hK _ ?_;clear hK K))|simp only [go_sem,eW]|with_reducible refine wA ?_|clear hK K)
    refine aM.mk (k+1) hlt (by omega) ?_;simp only [eA,eB]
    (refine ak ?_ ?_ ?_<;>simp only [aR,SI,SL,Ti,Tj,aX,aW,AV.v.injEq,Value.int.injEq,Value.bool.injEq,Value.string.injEq,AV.vec.injEq,AV.ptr.injEq,true_or,or_true,false_or,or_false,aa.mk.injEq,forall_eq_apply_imp_iff,forall_eq,forall_eq',go_sem])
    all_goals first|rfl|trace_state
   ·rw [hb] at eS;simp only [if_true] at eS
    repeat (first|(with_reducible first|refine af.up ?_|refine fun (K:AK) hK=> ?_|(refine hK _ ?_;clear hK K))|simp only [go_sem,hb]|with_reducible refine wA ?_|clear hK K)
    repeat (first|(with_reducible first|refine af.up ?_|refine fun (K:AK) hK=> ?_|(refine hK _ ?_;clear hK K))|simp only [go_sem,eW]|with_reducible refine wA ?_|clear hK K)
    refine aM.mk (k+1) hlt (by omega) ?_;simp only [eS]
    (refine ak ?_ ?_ ?_<;>simp only [aR,SI,SL,Ti,Tj,aX,aW,AV.v.injEq,Value.int.injEq,Value.bool.injEq,Value.string.injEq,AV.vec.injEq,AV.ptr.injEq,true_or,or_true,false_or,or_false,aa.mk.injEq,forall_eq_apply_imp_iff,forall_eq,forall_eq',go_sem])
    all_goals first|rfl|trace_state
  ·have hkn:k=names.length:=by omega
   have e1:decide ((k:Int)<(names.length:Int))=false:=decide_eq_false (by omega);rw [hkn] at e1;rw [hkn,Tr]
   repeat (first|(with_reducible first|refine af.up ?_|refine fun (K:AK) hK=> ?_|(refine hK _ ?_;clear hK K))|simp only [go_sem,e1]|with_reducible refine wA ?_|clear hK K)
   (refine ⟨?_, ?_, ?_⟩<;>simp only [aX,aW,AV.v.injEq,Value.int.injEq,Value.bool.injEq,Value.string.injEq,AV.vec.injEq,AV.ptr.injEq,true_or,or_true,false_or,or_false,aa.mk.injEq,forall_eq_apply_imp_iff,forall_eq,forall_eq',go_sem])
   all_goals first|rfl|trace_state
theorem Em (l:List ByteArray) (hl:l.length<=1000000) (hne:l≠[]):bK Tryz.prog 75 [.vec 0 l.length] [some ⟨9,1,true,l.map encS⟩] (.vec 1 l.length) [some ⟨9,1,true,l.map encS⟩,some ⟨9,1,true,l.map encS⟩]:=by
 have hpos:0<l.length:=by cases l<;>simp_all
 have eL:(l.map encS).length=l.length:=by simp
 (refine bK.enter Tryz.func75 rfl (by kernel_rfl) (by kernel_rfl) rfl ?_;simp only [Tryz.ntmps75,Tryz.results75,Rg,Q9,Nat.reduceAdd,Nat.reduceSub,Ti,Tj,Tl,Tm])
 repeat (first|(with_reducible first|refine af.up ?_|refine fun (K:AK) hK=> ?_|(refine hK _ ?_;clear hK K))|simp only [go_sem,eL]|with_reducible refine wA ?_|clear hK K)
 (refine ⟨?_, ?_, ?_⟩<;>simp only [aX,aW,AV.v.injEq,Value.int.injEq,Value.bool.injEq,Value.string.injEq,AV.vec.injEq,AV.ptr.injEq,true_or,or_true,false_or,or_false,aa.mk.injEq,forall_eq_apply_imp_iff,forall_eq,forall_eq',go_sem])
 all_goals first|rfl|trace_state
def PW (x n:Int):Int:=if n<1 then 0 else if x.tmod n<0 then x.tmod n+n else x.tmod n
theorem IB (x:Ex) (hx:x.lens 1000000):ag Tryz.prog 117 [.agg (bg x)] (.agg (bg x)):=by
 induction x using Ex.ind with
 | h k s l ih=>
  have hk: ∀y,y∈l->y.lens 1000000:=fun y hy z hz=>hx z (by rw [az,b8];exact List.mem_cons_of_mem _ (List.mem_flatMap.2 ⟨y,hy,hz⟩));have hl:l.length<=1000000:=hx (.mk k s l) (by rw [az];exact List.mem_cons_self);rw [bI];simp only [Ex.kind,Ex.label,Ex.kids]
  (refine ag.enter Tryz.func117 rfl (by kernel_rfl) (by kernel_rfl) rfl (by first|rfl|(simp only [go_sem,Tg,SA,SD])) (by first|rfl|(simp only [go_sem,Tg,SA,SD])) ?_;simp only [Tryz.ntmps117,Tryz.results117,Rg,Q9,Nat.reduceAdd,Nat.reduceSub,Ti,Tj,Tl,Tm])
  repeat (first|(with_reducible first|refine af.up ?_|refine fun (K:AK) hK=> ?_|(refine hK _ ?_;clear hK K))|simp only [go_sem]|with_reducible refine wA ?_|clear hK K)
  refine dG (ι:=Nat) 3 38 3 rfl (by decide) 10 (fun i=>[(3, .vec 2 i),(5, .undef),(9, .v (.int .i64 i))]) (fun i=>[some ⟨38,3,false,[[.v (.int .i64 k), .v (.string s), .aC 3 (l.map bg) l.length]]⟩,some ⟨38,3,false,[[.v (.int .i64 0), .v (.string ⟨#[]⟩), .v (.slice none 0 0)]]⟩,some ⟨38,3,true,(l.take i).map bg⟩]) (fun i=>l.length - i) (fun i=>i<=l.length) 0 (by omega) ?_ ?_
  ·(refine ak ?_ ?_ ?_<;>simp only [aR,SI,SL,Ti,Tj,aX,aW,AV.v.injEq,Value.int.injEq,Value.bool.injEq,Value.string.injEq,AV.vec.injEq,AV.ptr.injEq,true_or,or_true,false_or,or_false,aa.mk.injEq,forall_eq_apply_imp_iff,forall_eq,forall_eq',go_sem])
   all_goals first|rfl|trace_state
  ·rintro i hi K hK;have eW:=aD (k:=i) (by omega)
   by_cases hlt:i<l.length
   ·have e1:decide ((i:Int)<(l.length:Int))=true:=decide_eq_true (by omega);have eG:=getD_map bg l i [] hlt;have HX:=ih l[i] (S9 hlt) (hk _ (S9 hlt))
    have eL:(l.take i).length=i:=by rw [RB];omega
    have eT:(l.take (i+1)).map bg=(l.take i).map bg++[bg l[i]]:=rK bg l i hlt;simp only [bI] at HX eG eT
    repeat (first|(with_reducible first|refine af.up ?_|refine fun (K:AK) hK=> ?_|(refine hK _ ?_;clear hK K))|simp only [go_sem,e1,eG]|with_reducible refine wA ?_|clear hK K)
    refine ab.one HX ?_
    repeat (first|(with_reducible first|refine af.up ?_|refine fun (K:AK) hK=> ?_|(refine hK _ ?_;clear hK K))|simp only [go_sem,eW,eL]|with_reducible refine wA ?_|clear hK K)
    refine aM.mk (i+1) (by omega) (by omega) ?_
    (refine ak ?_ ?_ ?_<;>simp only [aR,SI,SL,Ti,Tj,aX,aW,AV.v.injEq,Value.int.injEq,Value.bool.injEq,Value.string.injEq,AV.vec.injEq,AV.ptr.injEq,true_or,or_true,false_or,or_false,aa.mk.injEq,forall_eq_apply_imp_iff,forall_eq,forall_eq',go_sem])
    all_goals first|rfl|exact eT.symm|trace_state
   ·have hkn:i=l.length:=by omega
    have e1:decide ((i:Int)<(l.length:Int))=false:=decide_eq_false (by omega);rw [hkn] at e1;rw [hkn,Tr]
    repeat (first|(with_reducible first|refine af.up ?_|refine fun (K:AK) hK=> ?_|(refine hK _ ?_;clear hK K))|simp only [go_sem,e1]|with_reducible refine wA ?_|clear hK K)
    (refine kY.of 40 rfl ?_;simp only [go_sem])
theorem sU (p:bQ) (hx:p.expr.lens 1000000):ag Tryz.prog 74 [.agg (bM p)] (.agg (bM p)):=by
 have C:=IB p.expr hx;rw [bI] at C;simp only [bM]
 (refine ag.enter Tryz.func74 rfl (by kernel_rfl) (by kernel_rfl) rfl (by first|rfl|(simp only [go_sem,Tg,SA,SD])) (by first|rfl|(simp only [go_sem,Tg,SA,SD])) ?_;simp only [Tryz.ntmps74,Tryz.results74,Rg,Q9,Nat.reduceAdd,Nat.reduceSub,Ti,Tj,Tl,Tm])
 repeat (first|(with_reducible first|refine af.up ?_|refine fun (K:AK) hK=> ?_|(refine hK _ ?_;clear hK K))|simp only [go_sem]|clear hK K)
 refine ab.one C ?_
 repeat (first|(with_reducible first|refine af.up ?_|refine fun (K:AK) hK=> ?_|(refine hK _ ?_;clear hK K))|simp only [go_sem]|clear hK K)
 (refine kY.of 40 rfl ?_;simp only [go_sem])
theorem zE (names:List ByteArray) (s:ByteArray):ag Tryz.prog 59 [.v (.string s), .vp [aK names]] (.v (.bool (!hasB names s))):=by
 have C:=dR names s;simp only [aK] at C ⊢
 (refine ag.enter Tryz.func59 rfl (by kernel_rfl) (by kernel_rfl) rfl (by simp only [go_sem,bn,AV.wf,Tg,SA,SD,aA]) (by simp only [go_sem,bn,AV.wf,aA,Tg,SA,SD,aA]) ?_;simp only [Tryz.ntmps59,Tryz.results59,Rg,Q9,Nat.reduceAdd,Nat.reduceSub,Ti,Tj,Tl,Tm])
 repeat (first|(with_reducible first|refine af.up ?_|refine fun (K:AK) hK=> ?_|(refine hK _ ?_;clear hK K))|simp only [go_sem]|clear hK K)
 refine ab.one C ?_
 repeat (first|(with_reducible first|refine af.up ?_|refine fun (K:AK) hK=> ?_|(refine hK _ ?_;clear hK K))|simp only [go_sem]|clear hK K)
def wu (f:ByteArray->Bool) (l:List ByteArray):Int:=if l.any f then (l.findIdx f:Nat) else -1
theorem wG {gf:FuncId} {caps:List AV} (f:ByteArray->Bool) (l:List ByteArray) (hl:l.length<=1000000) (hc: ∀s,ag Tryz.prog gf (.v (.string s) :: caps) (.v (.bool (f s)))) (hw:bn 0 caps=true) :
  ag Tryz.prog 103 [aK l, .fn gf [] caps] (.v (.int .i64 (wu f l))):=by
 simp only [aK]
 (refine ag.enter Tryz.func103 rfl (by kernel_rfl) (by kernel_rfl) rfl (by simp only [go_sem,bn,AV.wf,Tg,SA,SD,hw,aA]) (by simp only [go_sem,bn,AV.wf,aA,Tg,SA,SD,hw,aA]) ?_;simp only [Tryz.ntmps103,Tryz.results103,Rg,Q9,Nat.reduceAdd,Nat.reduceSub,Ti,Tj,Tl,Tm])
 repeat (first|(with_reducible first|refine af.up ?_|refine fun (K:AK) hK=> ?_|(refine hK _ ?_;clear hK K))|simp only [go_sem]|with_reducible refine wA ?_|clear hK K)
 refine ct (ι:=Nat) 9 (fun k=>[(5, .undef),(8, .v (.int .i64 k))]) (fun k=>l.length - k) (fun k=>k<=l.length∧ ∀(j:Nat) (h:j<l.length),j<k->f l[j]=false) 0 ⟨Nat.zero_le _,fun j _ h=>absurd h (Nat.not_lt_zero _)⟩ ?_ ?_
 ·(refine ak ?_ ?_ ?_<;>simp only [aR,SI,SL,Ti,Tj,aX,aW,AV.v.injEq,Value.int.injEq,Value.bool.injEq,Value.string.injEq,AV.vec.injEq,AV.ptr.injEq,true_or,or_true,false_or,or_false,aa.mk.injEq,forall_eq_apply_imp_iff,forall_eq,forall_eq',go_sem])
  all_goals first|rfl|exact ⟨hw,rfl⟩|trace_state
 ·rintro k ⟨hk,hlo⟩ K hK;have eW:=aD (k:=k) (by omega)
  by_cases hlt:k<l.length
  ·have e1:decide ((k:Int)<(l.length:Int))=true:=decide_eq_true (by omega);have eG:=getD_map encS l k [] hlt;simp only [encS] at eG;have C:=hc l[k]
   repeat (first|(with_reducible first|refine af.up ?_|refine fun (K:AK) hK=> ?_|(refine hK _ ?_;clear hK K))|simp only [go_sem,e1,eG]|with_reducible refine wA ?_|clear hK K)
   refine ab.one C ?_
   cases hb:f l[k]
   ·repeat (first|(with_reducible first|refine af.up ?_|refine fun (K:AK) hK=> ?_|(refine hK _ ?_;clear hK K))|simp only [go_sem,hb]|with_reducible refine wA ?_|clear hK K)
    repeat (first|(with_reducible first|refine af.up ?_|refine fun (K:AK) hK=> ?_|(refine hK _ ?_;clear hK K))|simp only [go_sem,eW]|with_reducible refine wA ?_|clear hK K)
    exact aM.mk (k+1) ⟨hlt,fun j hj hjk=>by
     rcases Nat.lt_succ_iff_lt_or_eq.1 hjk with q|rfl
     ·exact hlo j hj q
     ·exact hb⟩ (by omega) (by (refine ak ?_ ?_ ?_<;>simp only [aR,SI,SL,Ti,Tj,aX,aW,AV.v.injEq,Value.int.injEq,Value.bool.injEq,Value.string.injEq,AV.vec.injEq,AV.ptr.injEq,true_or,or_true,false_or,or_false,aa.mk.injEq,forall_eq_apply_imp_iff,forall_eq,forall_eq',go_sem]);exact hw)
   ·have eI:wu f l=(k:Int):=by
     rw [wu,if_pos (List.any_eq_true.2 ⟨_,S9 hlt,hb⟩)];refine congrArg Nat.cast ?_
     exact (List.findIdx_eq hlt).2 ⟨hb,fun j hj=>by
      have:=hlo j (by omega) hj
      simpa using this⟩
    repeat (first|(with_reducible first|refine af.up ?_|refine fun (K:AK) hK=> ?_|(refine hK _ ?_;clear hK K))|simp only [go_sem,hb]|with_reducible refine wA ?_|clear hK K)
    rw [eI]
  ·have e1:decide ((k:Int)<(l.length:Int))=false:=decide_eq_false (by omega)
   have eI:wu f l = -1:=by
    rw [wu,if_neg ?_];intro h;obtain ⟨x,hx,hfx⟩:=List.any_eq_true.1 h;obtain ⟨j,hj,rfl⟩:=List.getElem_of_mem hx;rw [hlo j hj (by omega)] at hfx;cases hfx
   repeat (first|(with_reducible first|refine af.up ?_|refine fun (K:AK) hK=> ?_|(refine hK _ ?_;clear hK K))|simp only [go_sem,e1]|with_reducible refine wA ?_|clear hK K)
   rw [eI]
theorem pG {gf:FuncId} {caps:List AV} (f:ByteArray->Bool) (l:List ByteArray) (hl:l.length<=1000000) (hc: ∀s,ag Tryz.prog gf (.v (.string s) :: caps) (.v (.bool (f s)))) (hw:bn 0 caps=true) :
  ag Tryz.prog 61 [aK l, .fn gf [] caps] (.v (.bool (l.any f))):=by
 have C:=wG f l hl hc hw
 have e:decide (wu f l ≥ 0)=l.any f:=by
  unfold wu
  cases h:l.any f
  ·simp
  ·simp
 generalize wu f l=d at C e;simp only [aK] at C ⊢
 (refine ag.enter Tryz.func61 rfl (by kernel_rfl) (by kernel_rfl) rfl (by simp only [go_sem,bn,AV.wf,Tg,SA,SD,hw,aA]) (by simp only [go_sem,bn,AV.wf,aA,Tg,SA,SD,hw,aA]) ?_;simp only [Tryz.ntmps61,Tryz.results61,Rg,Q9,Nat.reduceAdd,Nat.reduceSub,Ti,Tj,Tl,Tm])
 repeat (first|(with_reducible first|refine af.up ?_|refine fun (K:AK) hK=> ?_|(refine hK _ ?_;clear hK K))|simp only [go_sem]|clear hK K)
 refine ab.one C ?_
 repeat (first|(with_reducible first|refine af.up ?_|refine fun (K:AK) hK=> ?_|(refine hK _ ?_;clear hK K))|simp only [go_sem,e]|clear hK K)
def qt (c:ff) (k:Nat):List ByteArray:=([c.left,c.right].take k).foldl fF []
theorem Ip (c:ff) (k:Nat):(qt c k).length<=2:=by
 have h: ∀out o,(fF out o).length<=out.length+1:=fun out o=>by
  unfold fF
  split
  ·unfold aq;split<;>simp
  ·omega
 have h1:=h [] c.left;have h2:=h (fF [] c.left) c.right;simp only [Q9] at h1
 match k with
 | 0=>simp [qt]
 | 1=>simp only [qt,TF,TE,SI,SL];omega
 | k+2=>simp only [qt,TF,List.take_nil,SI,SL];omega
theorem LW (c:ff):qt c 2=ew c:=rfl
theorem As {c:ff} {k:Nat} {o:dM} (ho:[c.left,c.right][k]? = some o) (h:fE o=true):[o.name].foldl aq (qt c k)=qt c (k+1):=by
 match k,ho with
 | 0,ho=>cases ho;simp only [qt,TF,TE,SI,SL,fF,h,if_true]
 | 1,ho=>cases ho;simp only [qt,TF,TE,SI,SL];rw [fF.eq_1 _ c.right,h,if_pos rfl]
 | k+2,ho=>cases ho
theorem Fe {c:ff} {k:Nat} {o:dM} (ho:[c.left,c.right][k]? = some o) (h:fE o=false):qt c k=qt c (k+1):=by
 match k,ho with
 | 0,ho=>cases ho;simp only [qt,TF,TE,SI,SL,fF,h,if_false,Bool.false_eq_true]
 | 1,ho=>cases ho;simp only [qt,TF,TE,SI,SL];rw [fF.eq_1 _ c.right,h,if_neg (by decide)]
 | k+2,ho=>cases ho
theorem Fv (c:ff):ag Tryz.prog 19 [.agg (aH c)] (aK (ew c)):=by
 have n0:qt c 0=[]:=rfl;have nY0:fE c.left=true->[c.left.name].foldl aq (qt c 0)=qt c 1:=fun h=>As (c:=c) (k:=0) (o:=c.left) rfl h;have nY1:fE c.right=true->[c.right.name].foldl aq (qt c 1)=qt c 2:=fun h=>As (c:=c) (k:=1) (o:=c.right) rfl h;have nN0:fE c.left=false->qt c 0=qt c 1:=fun h=>Fe (c:=c) (k:=0) (o:=c.left) rfl h;have nN1:fE c.right=false->qt c 1=qt c 2:=fun h=>Fe (c:=c) (k:=1) (o:=c.right) rfl h;have nl:=Ip c;have eZ: ∀f l,bW f (List.map encS l)=List.map encS l:=fun f l=>bS _ _ (aA _ _);rw [<-LW];generalize qt c=nm at *;obtain ⟨op,l,r⟩:=c;simp only [aK,aH,fE] at *
 (refine ag.enter Tryz.func19 rfl (by kernel_rfl) (by kernel_rfl) rfl (by first|rfl|(simp only [go_sem,Tg,SA,SD])) (by first|rfl|(simp only [go_sem,Tg,SA,SD])) ?_;simp only [Tryz.ntmps19,Tryz.results19,List.length_cons,Q9,Nat.reduceAdd,Nat.reduceSub,Ti,Tj,List.cons_append,List.nil_append])
 repeat (first|(with_reducible first|refine af.up ?_|refine fun (K:AK) hK=> ?_|(refine hK _ ?_;clear hK K))|simp only [go_sem]|with_reducible refine wA ?_|clear hK K)
 refine dG (ι:=Nat) 2 9 1 rfl (by decide) 11 (fun k=>[(2, .vec 1 (nm k).length),(4, .undef),(10, .v (.int .i64 k))]) (fun k=>[some ⟨67,13,false,[[.v (.int .i64 op), .v (.int .i64 l.kind), .v (.string l.name), .v (.string l.key), .v (.int .i64 l.val.kind), .v (.int .i64 l.val.num), .v (.string l.val.text), .v (.int .i64 r.kind), .v (.string r.name), .v (.string r.key), .v (.int .i64 r.val.kind), .v (.int .i64 r.val.num), .v (.string r.val.text)]]⟩,some ⟨9,1,true,(nm k).map encS⟩]) (fun k=>2 - k) (fun k=>k<=2) 0 (by omega) ?_ ?_
 ·rw [n0]
  (refine ak ?_ ?_ ?_<;>simp only [aR,SI,SL,Ti,Tj,aX,aW,AV.v.injEq,Value.int.injEq,Value.bool.injEq,Value.string.injEq,AV.vec.injEq,AV.ptr.injEq,true_or,or_true,false_or,or_false,aa.mk.injEq,forall_eq_apply_imp_iff,forall_eq,forall_eq',go_sem])
  all_goals first|rfl|trace_state
 rintro i hi K hK;have c0:((0:Nat):Int)=0:=rfl;have c1:((1:Nat):Int)=1:=rfl;have c2:((2:Nat):Int)=2:=rfl;have w1:IntKind.i64.wrap ((0:Int)+1)=1:=rfl;have w2:IntKind.i64.wrap ((1:Int)+1)=2:=rfl
 have hi3:i=0∨i=1∨i=2:=by omega
 rcases hi3 with hi0|hi0|hi0
 ·have ll:=nl 0
  have lm:((nm 0).map encS).length=(nm 0).length:=by simp
  cases hb:(l.kind==1||l.kind==2)
  ·have hs:=nN0 hb;simp only [T6] at hb
   repeat (first|(with_reducible first|refine af.up ?_|refine fun (K:AK) hK=> ?_|(refine hK _ ?_;clear hK K))|simp only [go_sem,hi0,c0,c1,c2,decide_true,decide_false,hb.1,hb.2,Go.undef]|with_reducible refine wA ?_|clear hK K)
   repeat (first|(with_reducible first|refine af.up ?_|refine fun (K:AK) hK=> ?_|(refine hK _ ?_;clear hK K))|simp only [go_sem,w1]|with_reducible refine wA ?_|clear hK K)
   refine aM.mk 1 (by omega) (by omega) ?_;rw [hs]
   (refine ak ?_ ?_ ?_<;>simp only [aR,SI,SL,Ti,Tj,aX,aW,AV.v.injEq,Value.int.injEq,Value.bool.injEq,Value.string.injEq,AV.vec.injEq,AV.ptr.injEq,true_or,or_true,false_or,or_false,aa.mk.injEq,forall_eq_apply_imp_iff,forall_eq,forall_eq',go_sem])
   all_goals first|rfl|trace_state
  ·have U:=qZ (nm 0) [l.name] (by omega) (by simp);rw [nY0 hb] at U
   have fin:l.kind=1∨(l.kind==1)=false∧(l.kind==2)=true:=by
    cases h1:(l.kind==1)
    ·rw [h1] at hb;exact .inr ⟨rfl,by simpa using hb⟩
    ·exact .inl (by simpa using h1)
   rcases fin with h1|⟨h1,h2⟩
   ·have h1:(l.kind==1)=true:=by simp [h1]
    repeat (first|(with_reducible first|refine af.up ?_|refine fun (K:AK) hK=> ?_|(refine hK _ ?_;clear hK K))|simp only [go_sem,hi0,c0,c1,c2,decide_true,decide_false,h1,Go.undef]|with_reducible refine wA ?_|clear hK K)
    refine ab.fr [1,3] U (by simp) ?_ ?_ ?_ ?_ ?_
    ·simp only [TN,TT,Su,Tc,RI,aa.bc,bW,bV,AV.bc,eZ,encS]
    ·rfl
    ·rfl
    ·intro j ob hj
     match j,hj with
     | 0,hj=>cases hj;exact aA _ _
     | 1,hj=>cases hj;exact aA _ _
     | j+2,hj=>simp at hj
    repeat (first|(with_reducible first|refine af.up ?_|refine fun (K:AK) hK=> ?_|(refine hK _ ?_;clear hK K))|simp only [go_sem,eZ]|with_reducible refine wA ?_|clear hK K)
    repeat (first|(with_reducible first|refine af.up ?_|refine fun (K:AK) hK=> ?_|(refine hK _ ?_;clear hK K))|simp only [go_sem,w1]|with_reducible refine wA ?_|clear hK K)
    refine aM.mk 1 (by omega) (by omega) ?_
    (refine ak ?_ ?_ ?_<;>simp only [aR,SI,SL,Ti,Tj,aX,aW,AV.v.injEq,Value.int.injEq,Value.bool.injEq,Value.string.injEq,AV.vec.injEq,AV.ptr.injEq,true_or,or_true,false_or,or_false,aa.mk.injEq,forall_eq_apply_imp_iff,forall_eq,forall_eq',go_sem])
    all_goals first|rfl|trace_state
   ·repeat (first|(with_reducible first|refine af.up ?_|refine fun (K:AK) hK=> ?_|(refine hK _ ?_;clear hK K))|simp only [go_sem,hi0,c0,c1,c2,decide_true,decide_false,h1,h2,Go.undef]|with_reducible refine wA ?_|clear hK K)
    refine ab.fr [1,3] U (by simp) ?_ ?_ ?_ ?_ ?_
    ·simp only [TN,TT,Su,Tc,RI,aa.bc,bW,bV,AV.bc,eZ,encS]
    ·rfl
    ·rfl
    ·intro j ob hj
     match j,hj with
     | 0,hj=>cases hj;exact aA _ _
     | 1,hj=>cases hj;exact aA _ _
     | j+2,hj=>simp at hj
    repeat (first|(with_reducible first|refine af.up ?_|refine fun (K:AK) hK=> ?_|(refine hK _ ?_;clear hK K))|simp only [go_sem,eZ]|with_reducible refine wA ?_|clear hK K)
    repeat (first|(with_reducible first|refine af.up ?_|refine fun (K:AK) hK=> ?_|(refine hK _ ?_;clear hK K))|simp only [go_sem,w1]|with_reducible refine wA ?_|clear hK K)
    refine aM.mk 1 (by omega) (by omega) ?_
    (refine ak ?_ ?_ ?_<;>simp only [aR,SI,SL,Ti,Tj,aX,aW,AV.v.injEq,Value.int.injEq,Value.bool.injEq,Value.string.injEq,AV.vec.injEq,AV.ptr.injEq,true_or,or_true,false_or,or_false,aa.mk.injEq,forall_eq_apply_imp_iff,forall_eq,forall_eq',go_sem])
    all_goals first|rfl|trace_state
 ·have ll:=nl 1
  have lm:((nm 1).map encS).length=(nm 1).length:=by simp
  cases hb:(r.kind==1||r.kind==2)
  ·have hs:=nN1 hb;simp only [T6] at hb
   repeat (first|(with_reducible first|refine af.up ?_|refine fun (K:AK) hK=> ?_|(refine hK _ ?_;clear hK K))|simp only [go_sem,hi0,c0,c1,c2,decide_true,decide_false,hb.1,hb.2,Go.undef]|with_reducible refine wA ?_|clear hK K)
   repeat (first|(with_reducible first|refine af.up ?_|refine fun (K:AK) hK=> ?_|(refine hK _ ?_;clear hK K))|simp only [go_sem,w2]|with_reducible refine wA ?_|clear hK K)
   refine aM.mk 2 (by omega) (by omega) ?_;rw [hs]
   (refine ak ?_ ?_ ?_<;>simp only [aR,SI,SL,Ti,Tj,aX,aW,AV.v.injEq,Value.int.injEq,Value.bool.injEq,Value.string.injEq,AV.vec.injEq,AV.ptr.injEq,true_or,or_true,false_or,or_false,aa.mk.injEq,forall_eq_apply_imp_iff,forall_eq,forall_eq',go_sem])
   all_goals first|rfl|trace_state
  ·have U:=qZ (nm 1) [r.name] (by omega) (by simp);rw [nY1 hb] at U
   have fin:r.kind=1∨(r.kind==1)=false∧(r.kind==2)=true:=by
    cases h1:(r.kind==1)
    ·rw [h1] at hb;exact .inr ⟨rfl,by simpa using hb⟩
    ·exact .inl (by simpa using h1)
   rcases fin with h1|⟨h1,h2⟩
   ·have h1:(r.kind==1)=true:=by simp [h1]
    repeat (first|(with_reducible first|refine af.up ?_|refine fun (K:AK) hK=> ?_|(refine hK _ ?_;clear hK K))|simp only [go_sem,hi0,c0,c1,c2,decide_true,decide_false,h1,Go.undef]|with_reducible refine wA ?_|clear hK K)
    refine ab.fr [1,3] U (by simp) ?_ ?_ ?_ ?_ ?_
    ·simp only [TN,TT,Su,Tc,RI,aa.bc,bW,bV,AV.bc,eZ,encS]
    ·rfl
    ·rfl
    ·intro j ob hj
     match j,hj with
     | 0,hj=>cases hj;exact aA _ _
     | 1,hj=>cases hj;exact aA _ _
     | j+2,hj=>simp at hj
    repeat (first|(with_reducible first|refine af.up ?_|refine fun (K:AK) hK=> ?_|(refine hK _ ?_;clear hK K))|simp only [go_sem,eZ]|with_reducible refine wA ?_|clear hK K)
    repeat (first|(with_reducible first|refine af.up ?_|refine fun (K:AK) hK=> ?_|(refine hK _ ?_;clear hK K))|simp only [go_sem,w2]|with_reducible refine wA ?_|clear hK K)
    refine aM.mk 2 (by omega) (by omega) ?_
    (refine ak ?_ ?_ ?_<;>simp only [aR,SI,SL,Ti,Tj,aX,aW,AV.v.injEq,Value.int.injEq,Value.bool.injEq,Value.string.injEq,AV.vec.injEq,AV.ptr.injEq,true_or,or_true,false_or,or_false,aa.mk.injEq,forall_eq_apply_imp_iff,forall_eq,forall_eq',go_sem])
    all_goals first|rfl|trace_state
   ·repeat (first|(with_reducible first|refine af.up ?_|refine fun (K:AK) hK=> ?_|(refine hK _ ?_;clear hK K))|simp only [go_sem,hi0,c0,c1,c2,decide_true,decide_false,h1,h2,Go.undef]|with_reducible refine wA ?_|clear hK K)
    refine ab.fr [1,3] U (by simp) ?_ ?_ ?_ ?_ ?_
    ·simp only [TN,TT,Su,Tc,RI,aa.bc,bW,bV,AV.bc,eZ,encS]
    ·rfl
    ·rfl
    ·intro j ob hj
     match j,hj with
     | 0,hj=>cases hj;exact aA _ _
     | 1,hj=>cases hj;exact aA _ _
     | j+2,hj=>simp at hj
    repeat (first|(with_reducible first|refine af.up ?_|refine fun (K:AK) hK=> ?_|(refine hK _ ?_;clear hK K))|simp only [go_sem,eZ]|with_reducible refine wA ?_|clear hK K)
    repeat (first|(with_reducible first|refine af.up ?_|refine fun (K:AK) hK=> ?_|(refine hK _ ?_;clear hK K))|simp only [go_sem,w2]|with_reducible refine wA ?_|clear hK K)
    refine aM.mk 2 (by omega) (by omega) ?_
    (refine ak ?_ ?_ ?_<;>simp only [aR,SI,SL,Ti,Tj,aX,aW,AV.v.injEq,Value.int.injEq,Value.bool.injEq,Value.string.injEq,AV.vec.injEq,AV.ptr.injEq,true_or,or_true,false_or,or_false,aa.mk.injEq,forall_eq_apply_imp_iff,forall_eq,forall_eq',go_sem])
    all_goals first|rfl|trace_state
 ·repeat (first|(with_reducible first|refine af.up ?_|refine fun (K:AK) hK=> ?_|(refine hK _ ?_;clear hK K))|simp only [go_sem,hi0,c0,c1,c2,decide_true,decide_false]|with_reducible refine wA ?_|clear hK K)
  (refine kY.of 40 rfl ?_;simp only [go_sem])
theorem iE (c:ff) (names:List ByteArray):ag Tryz.prog 21 [.agg (aH c),aK names] (.v (.bool (aN c names))):=by
 have N:=Fv c;have hl:=tN c;have C:=pG (gf:=59) (caps:=[.vp [aK names]]) (fun s=> !hasB names s) (ew c) (by omega) (zE names) (by simp only [aK,go_sem,bn,AV.wf,aA,Tg])
 have e:(!(ew c).any (fun s=> !hasB names s))=aN c names:=by rw [aN,List.all_eq_not_any_not]
 generalize (ew c).any (fun s=> !hasB names s)=bb at *;generalize ew c=cn at *;obtain ⟨op,l,r⟩:=c;simp only [aK,aH] at *
 (refine ag.enter Tryz.func21 rfl (by kernel_rfl) (by kernel_rfl) rfl (by simp only [go_sem,bn,AV.wf,Tg,SA,SD,aA]) (by simp only [go_sem,bn,AV.wf,aA,Tg,SA,SD,aA]) ?_;simp only [Tryz.ntmps21,Tryz.results21,List.length_cons,Q9,Nat.reduceAdd,Nat.reduceSub,Ti,Tj,List.cons_append,List.nil_append])
 repeat (first|(with_reducible first|refine af.up ?_|refine fun (K:AK) hK=> ?_|(refine hK _ ?_;clear hK K))|simp only [go_sem]|clear hK K)
 refine ab.one N ?_
 repeat (first|(with_reducible first|refine af.up ?_|refine fun (K:AK) hK=> ?_|(refine hK _ ?_;clear hK K))|simp only [go_sem]|clear hK K)
 refine ab.x5 C 60 rfl (by simp only [go_sem,Nat.reduceLT,Nat.reduceLeDiff,Nat.reduceEqDiff,Nat.lt_add_one,Nat.zero_lt_one,and_self,aA]) rfl ?_
 repeat (first|(with_reducible first|refine af.up ?_|refine fun (K:AK) hK=> ?_|(refine hK _ ?_;clear hK K))|simp only [go_sem,e]|clear hK K)
end Go.Proofs.YtjcobjgjjlahdaaGreatDoor
