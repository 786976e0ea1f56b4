/- texts of one claim, one behind the other. -/
import Derived.Test.YtlhhccmopfamhaaGreatDoorWWalk
import Derived.Test.YtlhhccmopfamhaaGreatDoorWRelG
import Derived.Test.YtlhhccmopfamhaaGreatDoorProg
import Derived.Test.YtlhhccmopfamhaaGreatDoorWBase2
import Derived.StillTailTactics
import Derived.Test.YtlhhccmopfamhaaGreatDoorWOpenX
import Derived.Sort.Grow
import Derived.Shelf.Sort.Plain
import Derived.Shelf.Slices.CompactI
import Derived.Shelf.Slices.In.SortNone
import Derived.Shelf.Spec.SlicesGrow
import Derived.Test.YtlhhccmopfamhaaGreatDoorRows
import Derived.LaidMore
import Derived.OpenShut
import Derived.Test.YtlhhccmopfamhaaGreatDoorWAbs
set_option linter.unusedSimpArgs false
set_option linter.unusedVariables false
set_option maxRecDepth 100000
set_option maxHeartbeats 16000000
open List renaming zip_cons_cons -> UE, zip_nil_left -> UF, foldl_cons -> UG, foldl_nil -> UH, setIfInBounds_toArray -> UI, set_cons_succ -> UJ, set_cons_zero -> UK, getElem?_toArray -> Tp, getElem?_cons_zero -> Ud, getElem?_eq_some_iff -> S7, getElem?_set_self -> Tw, getElem?_set_ne -> Tv, getElem?_eq_getElem -> Tn, length_append -> Tb, eq_nil_of_length_eq_zero -> TL, length_cons -> Tc, length_nil -> S6, replicate_succ -> UN, replicate_zero -> UO, cons_append -> UP, nil_append -> UQ, drop_eq_getElem_cons -> US, mem_cons_self -> Ua, mem_cons_of_mem -> T8, mem_flatMap -> UU, all_eq_true -> Ui, mem_append_left -> U1, getD_eq_getElem?_getD -> T3
open Nat renaming le_refl -> SY, le_trans -> S3
open Option.some renaming injEq -> Ti, inj -> SX
open Prod.mk renaming injEq -> Tj
open Array renaming getElem?_modify -> T4
open Go.Sort renaming heap_ahead -> UL
open BitVec renaming eq_of_toNat_eq -> UW, lt_of_getLsbD -> UX, eq_of_getLsbD_eq -> UY, getLsbD_and -> UZ, getLsbD_neg -> U0
open Bool renaming and_self -> UM, and_true -> Um, true_and -> Us, not_eq_eq_eq_not -> UR, eq_false_or_eq_true -> UT, and_eq_true -> TY, not_eq_true -> U2
namespace Go.Proofs.YtlhhccmopfamhaaGreatDoor
open Go.RowKit
section
open Go.RowKit Go.Shelf
attribute [local go_sem] Oper.semAt_some
theorem uB {x:Ex} {q:List XC} (h:q.map XC.sig <+: (au x).map Ex.sig) (hq:24<q.length∨ ∃c,c∈q∧o8 c.sig=false):aB x=false:=by
 rw [oP];obtain ⟨r,hr⟩:=h;rw [<-hr]
 rcases hq with hq|⟨c,hc,hf⟩
 ·rw [decide_eq_false (by simp;omega),Bool.false_and]
 ·have:(q.map XC.sig++r).all o8=false:=by
   rw [List.all_eq_false];exact ⟨c.sig,by simp;exact .inl ⟨c,hc,rfl⟩,by rw [hf];decide⟩
  rw [this,Bool.and_false]
theorem uA {x:Ex} {q:List XC} (h:q.map XC.sig=(au x).map Ex.sig) (hq:q.length<=24) (hp: ∀c,c∈q->o8 c.sig=true):aB x=true:=by
 rw [oP, <- h,decide_eq_true (by simpa using hq),Bool.true_and,List.all_map,List.all_eq_true];exact hp
theorem rM (x:Ex) (cx:List Value) (w:World) (hx:dI w x cx) (hok:x.ok) :
  Calls Tryz.prog 46 #[.agg cx.toArray] w (BT w (.bool (aB x))):=by
 obtain ⟨k,s,kids⟩:=x;have hx':=hx;rw [dI] at hx;obtain ⟨sv,rfl,hr⟩:=hx;obtain ⟨p,c,rfl, -, -⟩:=hr.shape;refine (callsIn_wide (n:=9)).1 ?_;have HX:=Lib.hid hx';have HO:=Lib.hid hok;clear hx' hok hr;refine callsIn_of_wp_marks Tryz.func46 rfl trivial ?_ rfl;simp only [Tryz.ntmps46,List.size_toArray,List.length_cons,List.length_nil,Nat.reduceAdd,Nat.reduceSub,Array.replicate_succ,Array.replicate_zero,List.push_toArray,List.append_toArray,List.nil_append,List.cons_append]
 gi_wp2_with fail
 refine ⟨trivial, ?_⟩;refine (callsIn_wide.2 (th _ _ _ _ _ _)).mono ?_;rintro e w' ⟨rfl,rfl⟩
 gi_wp2_with fail
 obtain ⟨bx,hbx⟩: ∃bx:Obj,bx = .cells #[.int .i64 k, .string s, .slice p kids.length c] 25:=⟨_,rfl⟩;rw [<-hbx];obtain ⟨W0,hW0⟩: ∃W0,(((w.alloc bx).alloc (.cells #[.bool false] 4)).alloc (.cells #[.int .i64 0] 3)).alloc bx=W0:=⟨_,rfl⟩
 have hs0:W0.heap.size=w.heap.size+4:=by rw [<-hW0];simp
 have hb0:Below w.heap.size w W0:=by rw [<-hW0];exact ((((Below.refl w.heap.size w).alloc (SY _) _).alloc (by simp) _).alloc (by simp;omega) _).alloc (by simp;omega) _
 have hbr:W0.heap[w.heap.size+1]? = some (.cells #[.bool false] 4 (0,0)):=by rw [<-hW0];exact ia (ia (by simpa using dJ (w.alloc bx) _) _) _
 have hbn:W0.heap[w.heap.size+2]? = some (.cells #[.int .i64 0] 3 (0,0)):=by rw [<-hW0];exact ia (by simpa using dJ ((w.alloc bx).alloc (.cells #[.bool false] 4)) _) _
 have hbp:W0.heap[w.heap.size+3]? = some bx:=by rw [<-hW0];simpa using dJ (((w.alloc bx).alloc (.cells #[.bool false] 4)).alloc (.cells #[.int .i64 0] 3)) bx
 rw [hbx] at hbp;have hseq:=o9 Fence.wide (fun _=>trivial) rfl rfl 8 w.heap.size (w.heap.size+3) (w.heap.size+3) 0 (by decide) _ _ w W0 (SY _) (by omega) HX.out HO.out (.of hb0) hbp;rw [hW0];clear hbx
 refine Gn (lb:= #[.pointer (some ⟨w.heap.size+3,0,none⟩)]) (gf:=109) rfl (enters_of Tryz.func109 (by kernel_rfl) rfl) hseq (Below.refl _ _) (fun _=>rfl)
  (fun pre W=>(Below w.heap.size w W∧W.heap[w.heap.size+2]? = some (.cells #[.int .i64 pre.length] 3 (0,0))∧W.heap[w.heap.size+1]? = some (.cells #[.bool false] 4 (0,0))∧W0.heap.size<=W.heap.size)∧pre.length<=24∧ ∀c,c∈pre->o8 c.sig=true)
  (fun c pre W=>(Below w.heap.size w W∧W.heap[w.heap.size+1]? = some (.cells #[.bool false] 4 (0,0)))∧c = .ret∧(24<pre.length∨ ∃c,c∈pre∧o8 c.sig=false))
  (((ownFrom_below (SY _) (by omega)).and ((il _ _ (fun s:List XC=> #[.int .i64 s.length]) _).and ((il _ _ (fun _:List XC=> #[.bool false]) _).and (fun _ _ _ _ hs hg _=>S3 hs hg.size)))).and (ownFrom_pure _ _))
  (fun _=>((ownFrom_below (SY _) (by omega)).and (il _ _ (fun _:List XC=> #[.bool false]) _)).and (ownFrom_pure _ _))
  ⟨⟨hb0,hbn,hbr,SY _⟩,Nat.zero_le _,fun _ h=>by cases h⟩ 4 (fun c=> #[.int .i64 c.kind, .string c.label, .slice c.ptr c.len c.cap]) 25 (fun _ _ h=>h.1.2.2.2) ?assign ?body ?done ?stop
 case assign=>
  intro l x W K hK;simp only [handed,XC.val,UE,UF,UG,UH,UI,UJ,UK];simp only [handed,XC.val,Act.mf,UE,UF,UG,UH,UI,UJ,UK] at hK
  gi_wp2
  exact hK
 case body=>
  rintro l pre x B W hl hrec ⟨⟨hb,hn,hr,hsz⟩,hle,hall⟩ hB hbB hlen;have hcn:=aj hn 0;have hfn:=bY hn 0;have hcr:=aj hr 0;have hfr:=bY hr 0;have hp0:=aj hbB 0;have hp1:=aj hbB 1;have hp2:=aj hbB 2;simp only [Tp,Ud,List.getElem?_cons_succ] at hcn hcr hp0 hp1 hp2
  have hB1: ¬B=w.heap.size+2:=by omega
  have hB2: ¬w.heap.size+2=B:=by omega
  obtain ⟨W1,hW1⟩: ∃W1,W1=W.setCell ⟨w.heap.size+2,0,none⟩ (.int .i64 ((pre.length:Int)+1)):=⟨_,rfl⟩
  have hk1:Kept w.heap.size (w.heap.size+3) 0 W W1:=by rw [hW1];exact Kept.setCell W (by omega) (by omega) _
  have hf1:KeepsFrom W0.heap.size W W1:=by rw [hW1];exact (KeepsOthers.setCell _ _ _).from _
  have hbw1:Below w.heap.size w W1:=by rw [hW1];exact hb.setCell (p:=⟨w.heap.size+2,0,none⟩) (by simp) _
  have hn1:W1.heap[w.heap.size+2]? = some (.cells #[.int .i64 ((pre++[x]).length:Nat)] 3 (0,0)):=by rw [hW1];simpa using gC hn (.int .i64 ((pre.length:Int)+1))
  have hr1:W1.heap[w.heap.size+1]? = some (.cells #[.bool false] 4 (0,0)):=by rw [hW1];exact cW hr _ (by omega)
  have hz1:W0.heap.size<=W1.heap.size:=by rw [hW1];exact S3 hsz (KeepsOthers.setCell _ _ _).size
  have HA:=Lib.hid (show _∧_∧_∧_∧_∧_ from ⟨hk1,hf1,hbw1,hn1,hr1,hz1⟩)
  have hzl:w.heap.size+1<W1.heap.size:=by omega
  have HP:=Lib.hid (fun W'=>F1 x.kind x.label x.ptr x.len x.cap W' x.hl x.hn);have HS:Hid (∀b,bp x.kind x.label x.len=b->o8 x.sig=b):=fun b h=>h;have HALL:=Lib.hid hall;have HB0:=Lib.hid hb;have HW1:=Lib.hid hW1;clear hb hn hr hbB hk1 hf1 hbw1 hn1 hr1 hz1 hall hW1 hsz;simp only [handed,Act.mf,UE,UF,UG,UH,UI,UJ,UK]
  by_cases h24:pre.length=24
  ·have hgt:(24:Int)<(pre.length:Int)+1:=by omega
   have H24:=Lib.hid h24;clear h24;have hcr1:=aj HA.out.2.2.2.2.1 0;have hfr1:=bY HA.out.2.2.2.2.1 0;rw [HW1.out] at hcr1 hfr1;simp only [Tp,Ud] at hcr1
   gi_wp2_with fail
   refine ⟨trivial, ?_⟩
   gi_wp2
   obtain ⟨hk1,hf1,hbw1,hn1,hr1,hz1⟩:=HA.out;rw [HW1.out] at hf1 hbw1 hr1;refine ⟨hf1.trans ((KeepsOthers.setCell _ _ _).from _),⟨hbw1.setCell (p:=⟨w.heap.size+1,0,none⟩) (by simp) _,gC hr1 _⟩,rfl, .inl (by have:=H24.out;simp;omega)⟩
  ·have hgt: ¬(24:Int)<(pre.length:Int)+1:=by omega
   have H24:=Lib.hid h24;clear h24
   cases hpb:bp x.kind x.label x.len
   ·rw [hpb] at HP;have HPB:=Lib.hid (HS.out _ hpb);clear hpb
    gi_wp2_with fail
    refine ⟨trivial,(CallsIn.inRound l (callsIn_wide.2 (HP.out _))).mono ?_⟩;rintro e w2 ⟨rfl,hb2⟩
    have hb2':Below W1.heap.size W1 w2:=by rw [HW1.out];exact hb2
    clear hb2;obtain ⟨hk1,hf1,hbw1,hn1,hr1,hz1⟩:=HA.out;have hr2:w2.heap[w.heap.size+1]? = some (.cells #[.bool false] 4 (0,0)):=(hb2'.block _ (by omega)).trans hr1;have hcr1:=aj hr2 0;have hfr1:=bY hr2 0;simp only [Tp,Ud] at hcr1;have HR2:=Lib.hid hr2;have HB2:=Lib.hid hb2';clear hk1 hf1 hbw1 hn1 hr1 hz1 hr2 hb2'
    gi_wp2
    obtain ⟨hk1,hf1,hbw1,hn1,hr1,hz1⟩:=HA.out;exact ⟨(hf1.trans (jO HB2.out)).trans ((KeepsOthers.setCell _ _ _).from _),⟨(cB hbw1 HB2.out).setCell (p:=⟨w.heap.size+1,0,none⟩) (by simp) _,gC HR2.out _⟩,rfl, .inr ⟨x,by simp,HPB.out⟩⟩
   ·rw [hpb] at HP;have HPB:=Lib.hid (HS.out _ hpb);clear hpb
    gi_wp2_with fail
    refine ⟨trivial,(CallsIn.inRound l (callsIn_wide.2 (HP.out _))).mono ?_⟩;rintro e w2 ⟨rfl,hb2⟩
    have HB2:Hid (Below W1.heap.size W1 w2):=by show Below _ _ _;rw [HW1.out];exact hb2
    clear hb2
    gi_wp2
    obtain ⟨hk1,hf1,hbw1,hn1,hr1,hz1⟩:=HA.out;have hb2:=HB2.out;refine ⟨hf1.trans (jO hb2),hk1.trans (Kept.below hb2),⟨cB hbw1 hb2,(hb2.block _ (by omega)).trans hn1,(hb2.block _ (by omega)).trans hr1,S3 hz1 hb2.size⟩,by have:=H24.out;simp;omega, ?_⟩;intro c hc
    rcases List.mem_append.1 hc with hc|hc
    ·exact HALL.out c hc
    ·rw [List.mem_singleton.1 hc];exact HPB.out
 case done=>
  rintro D xs W hD hS ⟨⟨hb,hn,hr,hsz⟩,hle,hall⟩ hK;have hcr:=aj hr 0;have hfr:=bY hr 0;simp only [Tp,Ud] at hcr;have hfin:=uA hS hle hall;have HF:=Lib.hid hfin;have HR:=Lib.hid hr;have HB:=Lib.hid hb;have HK:=Lib.hid hK;have HD:=Lib.hid hD;have H0:=Lib.hid hs0;clear hb hn hr hsz hle hall hK hD hS hfin hW0 hb0 hbr hbn hbp hseq hs0
  gi_wp2
  have hD:=HD.out;have h0:=H0.out;have hKs:=cW HK.out (b:=w.heap.size+1) (o:=0) (.bool true) (by omega);refine ⟨by simp, .inl ⟨_,_,rfl,run_takeDeferred hKs, ?_⟩⟩;have hbx:=cV (gC HR.out (.bool true)) (.deferred none) (D:=D) (by omega);have hcf:=aj hbx 0;simp only [Tp,Ud] at hcf
  refine ⟨.bool true, ?_,bT rfl HF.out.symm ?_⟩
  ·simp [results,Tryz.results46,go_sem,hcf]
  ·exact ji (HB.out.setCell (p:=⟨w.heap.size+1,0,none⟩) (Nat.le_succ _) _) (by omega) _ hKs
 case stop=>
  rintro D c pre W hD hSp ⟨⟨hb,hr⟩,rfl,hq⟩ hK;have hfin:=uB hSp hq;have HF:=Lib.hid hfin;have HR:=Lib.hid hr;have HB:=Lib.hid hb;have HK:=Lib.hid hK;have HD:=Lib.hid hD;have H0:=Lib.hid hs0;clear hb hr hK hD hSp hq hfin hW0 hb0 hbr hbn hbp hseq hs0
  gi_wp2
  have hD:=HD.out;have h0:=H0.out;refine ⟨by simp, .inl ⟨_,_,rfl,run_takeDeferred HK.out, ?_⟩⟩;have hbx:=cV HR.out (.deferred none) (D:=D) (by omega);have hcf:=aj hbx 0;simp only [Tp,Ud] at hcf
  refine ⟨.bool false, ?_,bT rfl HF.out.symm ?_⟩
  ·simp [results,Tryz.results46,go_sem,hcf]
  ·exact ji HB.out (by omega) _ HK.out
end
section
open Go.RowKit
end
section
open Go.RowKit
end
section
open Go.RowKit
end
section
open Go.RowKit
end
section
def OH (f:FuncId) (cap:List Value) (q:lz->Bool) (w:World):Prop:= ∀(x:lz) (k:Int) (s:ByteArray) (l:List Ex) (v:Value) (W:World),Below w.heap.size w W->x.ok->x.expr = .mk k s l->jX W l v ->
 Calls Tryz.prog f (.agg #[.string x.aG, .string x.to, .bool x.path, .string x.label, .string x.name, .int .i64 k, .string s,v] :: cap).toArray W (BT W (.bool (q x)))
def OF (f:FuncId) (cap:List Value) (q:Aw->Bool) (w:World):Prop:= ∀(x:Aw) (W:World),Below w.heap.size w W->x.ok ->
 Calls Tryz.prog f (.agg #[.int .i64 x.op, .int .i64 x.left.kind, .string x.left.name, .string x.left.key, .int .i64 x.left.val.kind, .int .i64 x.left.val.num, .string x.left.val.text, .int .i64 x.right.kind, .string x.right.name, .string x.right.key, .int .i64 x.right.val.kind, .int .i64 x.right.val.num, .string x.right.val.text] :: cap).toArray W (BT W (.bool (q x)))
def OG (f:FuncId) (cap:List Value) (q:rU->Bool) (w:World):Prop:= ∀(x:rU) (W:World),Below w.heap.size w W->x.ok ->
 Calls Tryz.prog f (.agg #[.int .i64 x.kind, .string x.name, .string x.key, .int .i64 x.val.kind, .int .i64 x.val.num, .string x.val.text] :: cap).toArray W (BT W (.bool (q x)))
section
variable {P:Program}
theorem eJ {s:AS} {k i j:Nat} {ob:aa} {row:List AV} (T':TypeId) (z':Nat) (hz':0<z') (hk:s.o[k]? = some (some ob)) (hz:0<ob.z) (hr:ob.rows[i]? = some row) (hj:row[j]? = some (.v (.slice none 0 0))) :
  yK s (AS.mk s.t ((s.o++[some (aa.mk T' z' true [])]).set k (some { ob with rows:=ob.rows.set i (row.set j (.vec s.o.length 0)) })) s.y):=by
 intro f D nu a w hs
 have hv: ∀b,cr (Value.slice none 0 0)=some b->w.heap.size<=b:=fun b e=>by cases e
 have hp:=eo (nu:=nu) (o:=s.o) (ob:=⟨T',z',true,[]⟩) (Below.refl w.heap.size w) hv;have hro:=jz (ob:=⟨T',z',true,[]⟩) hs.ro (Below.refl _ _) hv (.inl ⟨rfl,rfl,rfl⟩);have hlt:=(S7.1 hk).1
 have hk':(s.o++[some (⟨T',z',true,[]⟩:aa)])[k]? = some (some ob):=by rw [List.getElem?_append_left hlt];exact hk
 have hh:ob.hl=({ ob with rows:=ob.rows.set i (row.set j (.vec s.o.length 0)) }:aa).hl:=by simp [aa.hl]
 obtain ⟨g,cur,hb⟩: ∃g cur,vH D (eO nu s.o.length (.slice none 0 0)) (s.o++[some ⟨T',z',true,[]⟩]) w k ob g cur:=by
  rcases hro.obj k ob hk' with ⟨_,e,_⟩|h|⟨g,es,cl,hm⟩
  ·rw [e] at hr;simp at hr
  ·exact h
  ·have:=hm.z;omega
 have hm:=gO (nu:=eO nu s.o.length (.slice none 0 0)) (o:=s.o++[some ⟨T',z',true,[]⟩]) (w:=w) (w':=w) (ob':={ ob with rows:=ob.rows.set i (row.set j (.vec s.o.length 0)) }) hk' hh.symm hb.bn rfl rfl rfl rfl (fun _ _=>rfl);refine ⟨eO nu s.o.length (.slice none 0 0),hp.trans hm,rfl, ?_,(hs.tm.mono hp (fun _ _ h=>h)).mono hm (fun _ _ h=>h),hs.ig⟩;have hil:=(S7.1 hr).1;have hjl:=(S7.1 hj).1
 have key: ∀(i' j':Nat) r c,(ob.rows.set i (row.set j (.vec s.o.length 0)))[i']? = some r->r[j']? = some c-> ∃r0 c0,ob.rows[i']? = some r0∧r0[j']? = some c0∧(c=c0∨(c = .vec s.o.length 0∧c0 = .v (.slice none 0 0))):=by
  intro i' j' r c h1 h2
  by_cases hi:i=i'
  ·subst hi;rw [Tw hil] at h1;cases h1
   by_cases hj':j=j'
   ·subst hj';rw [Tw hjl] at h2;cases h2;exact ⟨row,_,hr,hj, .inr ⟨rfl,rfl⟩⟩
   ·rw [Tv hj'] at h2;exact ⟨row,c,hr,h2, .inl rfl⟩
  ·rw [Tv hi] at h1;exact ⟨r,c,h1,h2, .inl rfl⟩
 refine ox hro hk' hh.symm hb.bn hm (fun _ _=>rfl) (cur:=cur) ⟨hb.cZ,hb.j9,fun hv'=> ?_,fun hv'=> ?_,hb.z,fun i' r hi'=> ?_,fun i' j' r c x h1 h2 h3=> ?_,fun i' j' r c x h1 h2 h3=> ?_⟩
 ·obtain ⟨q1,q2,q3⟩:=hb.box hv';exact ⟨q1,by simpa using q2,q3⟩
 ·obtain ⟨cap,q1,q2,q3,q4⟩:=hb.vec hv';exact ⟨cap,by simpa using q1,by simpa using q2,q3,q4⟩
 ·by_cases hi:i=i'
  ·subst hi;rw [Tw hil] at hi';cases hi';rw [List.length_set];exact hb.row i row hr
  ·rw [Tv hi] at hi';exact hb.row i' r hi'
 ·obtain ⟨r0,c0,k1,k2,e⟩:=key i' j' r c h1 h2;have h0:=hb.cell i' j' r0 c0 x k1 k2 h3
  rcases e with rfl|⟨rfl,rfl⟩
  ·exact h0.mono hm (fun _ _ h=>h)
  ·obtain rfl:=h0.bZ
   have:=RA.vec (D:=D) (nu:=eO nu s.o.length (.slice none 0 0)) (o:=(s.o++[some (⟨T',z',true,[]⟩:aa)])) (w:=w) s.o.length 0 ⟨_,List.getElem?_concat_length,fun x hx=>Nat.zero_le _⟩ (by rw [a6];rfl)
   rw [a6] at this;exact this.mono hm (fun _ _ h=>h)
 ·obtain ⟨r0,c0,k1,k2,_⟩:=key i' j' r c h1 h2;exact hb.one i' j' r0 c0 x k1 k2 h3
end
def Sh (l:List ByteArray):List (List AV):=l.map (fun s=>[.v (.string s)])
structure rT where
 d:Tmp
 k:Nat
 e:TypeId
 z:Nat
 n:Nat
 zc:List AV
 bx:Bool:=false
def rT.ob (m:rT):aa:=⟨m.e,m.z, !m.bx,List.replicate m.n m.zc⟩
def rT.av (m:rT) (id:Nat):AV:=if m.bx then .ptr id 0 m.z 0 0 else .vec id m.n
def rT.val (m:rT) (b cap:Nat):Value:=if m.bx then .pointer (some ⟨b,0,none⟩) else .slice (some ⟨b,0,none⟩) m.n cap
def SP (n0:Nat) (m:rT) (v:Value) (w:World):Prop:= ∃b cap cur,v=m.val b cap∧n0<=b∧w.heap[b]? = some (.cells cur m.e (0,0))∧m.n<=cap∧cap<=maxLen∧cur.size=cap * m.z∧0<m.z∧m.zc.length=m.z∧(m.bx=true->m.n=1∧cap=1) ∧
 ∀(i j:Nat) c x,i<m.n->m.zc[j]? = some c->cur[i * m.z+j]? = some x->c = .v x∧x.oneCell'=true
section
variable {D:Nat->Prop} {nu:Nat->Nat->Value} {o:List (Option aa)} {w:World} {P:Program}
def Qf:List AV->Nat->List rT->List AV
 | t,_,[]=>t
 | t,N,m :: l=>Qf (t.set m.d (m.av N)) (N+1) l
def uU (s:AS) (ms:List rT):AS:=⟨Qf s.t s.o.length ms,s.o++ms.map (fun m=>some m.ob),s.y⟩
def AV.MR:AV->AV
 | .v x=> .v x
 | .ptr a b c d e=> .ptr a b c d e
 | .vec a b=> .vec a b
 | .agg cs=>if AV.flat (.agg cs) then .agg cs else .undef
 | .fp _ (.v x)=> .v x
 | _=> .undef
theorem RA.MR {D':Nat->Prop} {nu':Nat->Nat->Value} {o':List (Option aa)} {w':World} (hh: ∀id len,cK o id len->cK o' id len∧nu' id len=nu id len) {c:AV} {x:Value} (h:RA D nu o w c x):RA D' nu' o' w' c.MR x:=by
 cases h with
 | v=>exact .v _
 | ptr id len z row off b h1 h2=>exact .ptr id len z row off b (hh _ _ h1).1 (by rw [(hh _ _ h1).2];exact h2)
 | vec id len h1 h2=>
  rw [<-(hh _ _ h1).2] at h2 ⊢;exact .vec id len (hh _ _ h1).1 h2
 | agg cs xs h1 h2 h3=>
  simp only [AV.MR]
  split
  ·rename_i hf;exact (RA.agg cs xs h1 h2 h3:RA D nu o w _ _).flat hf
  ·exact .undef _
 | fp p a x S h0 h1 hc h2 h3=>
  cases a with
  | v y=>cases h3;exact .v _
  | _=>exact .undef _
 | _=>exact .undef _
def EK:List Tmp->List AV->List AV
 | [],t=>t
 | d :: ds,t=>EK ds (t.set d (t.getD d .undef).MR)
def Hv (P:Program) (T:TypeId) (n c:AV):Option (Prop×TypeId×Nat×Nat×List AV):=
 match P.underlying T,n,c with
 | some (.slice e), .v (.int _ l), .v (.int _ m)=>match gR P T,b6 P e with
  | some (_,z,bytes),some zr=>some (0<=l∧l<=m∧m.toNat * bytes<=140737488355328∧m.toNat<=140737488355328,e,z,l.toNat,zr)
  | _,_=>none
 | _,_,_=>none
def Hs (P:Program) (T:TypeId):Option (Prop×TypeId×Nat×Nat×List AV):=
 match b6 P T with
 | some zr=>if 0<zr.length then some (True,T,zr.length,1,zr) else none
 | none=>none
def Hh (g:Option (Nat×Bool)) (d:Option Tmp) (N:Nat) (x:Option (Prop×TypeId×Nat×Nat×List AV)) (K:Tmp->TypeId->Nat->Nat->List AV->Prop):Prop:=match g,d,x with
 | none,some d,some (p,e,z,n,zc)=>(p∧d<N)∧K d e z n zc
 | _,_,_=>False
theorem D5 (d N:Nat) (p:Prop) (e:TypeId) (z n:Nat) (zc:List AV) (K:Tmp->TypeId->Nat->Nat->List AV->Prop):Hh none (some d) N (some (p,e,z,n,zc)) K=((p∧d<N)∧K d e z n zc):=rfl
@[congr] theorem LW {g:Option (Nat×Bool)} {d:Option Tmp} {N N':Nat} {x x':Option (Prop×TypeId×Nat×Nat×List AV)} {K:Tmp->TypeId->Nat->Nat->List AV->Prop} (h:N=N') (k:x=x'):Hh g d N x K=Hh g d N' x' K:=by rw [h,k]
def dS (P:Program) (all tail:List Oper):List Oper->Nat->AS->List rT->List Tmp->(AS->Prop)->Prop
 | [],_,s,ms,ds,Q=>dZ P all tail (uU ⟨EK ds s.t,s.o,s.y⟩ ms) Q
 | oo :: rest,k,s,ms,ds,Q=>match oo.op with
  | .makeSlice T n c=>Hh oo.guard oo.dst s.t.length (Hv P T (s.ev n) (s.ev c)) (fun d e z l zc=>dS P all tail rest (k+1) (s.put (some d) .undef s.o) (ms++[⟨d,k,e,z,l,zc,false⟩]) ds Q)
  | .alloc T=>Hh oo.guard oo.dst s.t.length (Hs P T) (fun d e z l zc=>dS P all tail rest (k+1) (s.put (some d) .undef s.o) (ms++[⟨d,k,e,z,l,zc,true⟩]) ds Q)
  | _=>match oo.guard with
   | none=>cO P oo.op s (fun r=>dS P all tail rest (k+1) (s.put oo.dst r s.o) ms (oo.dst.toList++ds) Q)
   | some (j,want)=>rP (iJ all s j) want (cO P oo.op s (fun r=>dS P all tail rest (k+1) (s.put oo.dst r s.o) ms (oo.dst.toList++ds) Q)) (dS P all tail rest (k+1) (s.put oo.dst (.v Go.undef) s.o) ms (oo.dst.toList++ds) Q)
structure R8 (l:List Oper) (s:AS) (a:Act) (k:Nat) (sk:AS) (rs:List (AV×Option rT)) (A:(Nat->Value)->Act) (ms:List rT) (ds:List Tmp):Prop extends BO l s a k sk (rs.map Prod.fst) A where
 row: ∀m,m∈ms->m.k<k∧rs[m.k]? = some (.undef,some m)∧(∃oi,l[m.k]? = some oi∧oi.dst=some m.d)∧ ∀x,(A x).tmps[m.d]? = some (x m.k)
 Rr:(ms.map rT.k).Nodup
 SC: ∀(i:Nat) r m,rs[i]? = some (r,some m)->r = .undef
 dst: ∀(i:Nat) (oi:Oper) d r,i<k->l[i]? = some oi->oi.dst=some d->rs[i]? = some (r,none)->d∈ds
def mq:List (Option aa)->List AV->Option (Prop×List AV×List (Option aa))
 | o,[]=>some (True,[],o)
 | o, .vec id len :: l=>match o[id]? with
  | some (some ob)=>match mq (o.set id none) l with
   | some (p,m,o')=>some ((ob.dj=true∧ob.rows.length=len∧bQ 0 ob.rows=true)∧p, .aI ob.z ob.rows len :: m,o')
   | none=>none
  | _=>none
 | o,a :: l=>match mq o l with
  | some (p,m,o')=>some (a.wf 0=true∧p,a :: m,o')
  | none=>none
theorem nS: ∀(args:List AV) {o:List (Option aa)} {p:Prop} {args':List AV} {o':List (Option aa)},mq o args=some (p,args',o')->p->RO D nu o w->bl nu o w nu o' w∧RO D nu o' w∧args.length=args'.length ∧
  ∀(i:Nat) a b x,args[i]? = some a->args'[i]? = some b->RA D nu o w a x->RA D nu o' w b x
 | [],o,p,args',o',he,hp,h=>by
  simp only [mq,Ti,Tj] at he;obtain ⟨rfl,rfl,rfl⟩:=he;exact ⟨.refl _ _ _,h,rfl,fun i a b x h=>by simp at h⟩
 | a :: l,o,p,args',o',he,hp,h=>by
  have plain:(match mq o l with
   | some (p,m,o')=>some (a.wf 0=true∧p,a :: m,o')
   | none=>none)=some (p,args',o')->bl nu o w nu o' w∧RO D nu o' w∧(a :: l).length=args'.length∧ ∀(i:Nat) c b x,(a :: l)[i]? = some c->args'[i]? = some b->RA D nu o w c x->RA D nu o' w b x:=fun he=>by
   cases hg:mq o l with
   | none=>rw [hg] at he;cases he
   | some y=>
    obtain ⟨q,m,o2⟩:=y;rw [hg] at he;simp only [Ti,Tj] at he;obtain ⟨rfl,rfl,rfl⟩:=he;obtain ⟨k1,k2,k3,k4⟩:=nS l hg hp.2 h;refine ⟨k1,k2,by simp [k3],fun i c b x q1 q2 hr=> ?_⟩
    cases i with
    | zero=>simp at q1 q2;subst q1;subst q2;exact hr.mono k1 (fun _ _ h=>h)
    | succ i=>exact k4 i c b x (by simpa using q1) (by simpa using q2) hr
  cases a with
  | vec id len=>
   simp only [mq] at he
   split at he
   ·rename_i ob ho
    cases hg:mq (o.set id none) l with
    | none=>rw [hg] at he;cases he
    | some y=>
     obtain ⟨q,m,o2⟩:=y;rw [hg] at he;simp only [Ti,Tj] at he;obtain ⟨rfl,rfl,rfl⟩:=he;obtain ⟨⟨hv,rfl,hw⟩,hq⟩:=hp;have hm:=c6 (nu:=nu) (o:=o) (w:=w) id;obtain ⟨k1,k2,k3,k4⟩:=nS l hg hq (kW h id);refine ⟨hm.trans k1,k2,by simp [k3],fun i c b x q1 q2 hr=> ?_⟩
     cases i with
     | zero=>
      simp at q1 q2;subst q1;subst q2;cases hr;exact (ln h ho hv).mono k1 (fun _ _ h=>h)
     | succ i=>exact k4 i c b x (by simpa using q1) (by simpa using q2) (hr.mono hm (fun _ _ h=>h))
   ·cases he
  | _=>exact plain he
theorem ab.IJ {f:FuncId} {args args':List AV} {o':List (Option aa)} {r:AV} {p:Prop} {K:AV->List (Option aa)->Prop} (h:af P f args' r) (hz:mq o args=some (p,args',o')) (hp:p) (k:K r o'):ab P f args o K:=by
 refine .inr (.inr ⟨h.2.1,fun D nu w vargs hro hra=> ?_⟩);obtain ⟨k1,k2,k3,k4⟩:=nS args hz hp hro
 refine (lW h k2 ⟨by rw [<-k3];exact hra.len,fun i c x q1 q2=> ?_⟩).mono ?_
 ·have hi:i<args.length:=by rw [k3];exact (S7.1 q1).1
  exact k4 i _ c x (Tn hi) q1 (hra.at' i _ x (Tn hi) q2)
 ·rintro e w' ⟨v,rfl,hb,hr⟩;exact ⟨v,nu,o',r,rfl,k1.trans (ak hb),k2.below hb,hr,k⟩
theorem b5 {n0 i:Nat} {ops:Array Oper} {d:Bool} {s:AS} {Q:aJ->AS->Prop} (h:bK P n0 (.region i ops d) s Q):bK P n0 (.region i ops d) s Q:=h
theorem B2 {all tail rest:List Oper} {d:Tmp} {T ty:TypeId} {pos:String} {aft:Array Edge} {k:Nat} {s:AS} {ms:List rT} {ds:List Tmp} {Q:AS->Prop} (h:Hh none (some d) s.t.length (Hs P T) (fun d e z l zc=>dS P all tail rest (k+1) (s.put (some d) .undef s.o) (ms++[⟨d,k,e,z,l,zc,true⟩]) ds Q)):dS P all tail (⟨some d, .alloc T,ty,pos,aft,none⟩ :: rest) k s ms ds Q:=h
theorem B3 {all tail rest:List Oper} {d:Tmp} {T ty:TypeId} {n c:Operand} {pos:String} {aft:Array Edge} {k:Nat} {s:AS} {ms:List rT} {ds:List Tmp} {Q:AS->Prop} (h:Hh none (some d) s.t.length (Hv P T (s.ev n) (s.ev c)) (fun d e z l zc=>dS P all tail rest (k+1) (s.put (some d) .undef s.o) (ms++[⟨d,k,e,z,l,zc,false⟩]) ds Q)):dS P all tail (⟨some d, .makeSlice T n c,ty,pos,aft,none⟩ :: rest) k s ms ds Q:=h
theorem yT {all tail:List Oper} {k:Nat} {s:AS} {ms:List rT} {ds:List Tmp} {Q:AS->Prop} (h:dZ P all tail (uU ⟨EK ds s.t,s.o,s.y⟩ ms) Q):dS P all tail [] k s ms ds Q:=h
instance {all tail:List Oper} {k:Nat} {s:AS} {ms:List rT} {ds:List Tmp} {Q:AS->Prop}:ag (dS P all tail [] k s ms ds Q) (dZ P all tail (uU ⟨EK ds s.t,s.o,s.y⟩ ms) Q):=⟨yT⟩
instance {all tail rest:List Oper} {d:Tmp} {T ty:TypeId} {n c:Operand} {pos:String} {aft:Array Edge} {k:Nat} {s:AS} {ms:List rT} {ds:List Tmp} {Q:AS->Prop}:ag (dS P all tail (⟨some d, .makeSlice T n c,ty,pos,aft,none⟩ :: rest) k s ms ds Q)
 (Hh none (some d) s.t.length (Hv P T (s.ev n) (s.ev c)) (fun d e z l zc=>dS P all tail rest (k+1) (s.put (some d) .undef s.o) (ms++[⟨d,k,e,z,l,zc,false⟩]) ds Q)):=⟨B3⟩
instance {all tail rest:List Oper} {d:Tmp} {T ty:TypeId} {pos:String} {aft:Array Edge} {k:Nat} {s:AS} {ms:List rT} {ds:List Tmp} {Q:AS->Prop}:ag (dS P all tail (⟨some d, .alloc T,ty,pos,aft,none⟩ :: rest) k s ms ds Q)
 (Hh none (some d) s.t.length (Hs P T) (fun d e z l zc=>dS P all tail rest (k+1) (s.put (some d) .undef s.o) (ms++[⟨d,k,e,z,l,zc,true⟩]) ds Q)):=⟨B2⟩
end
attribute [go_sem] D5 Hs rT.av Hv uU Qf EK AV.MR AV.flat rT.ob Option.toList_some Option.toList_none
end
section
section
variable {D:Nat->Prop} {nu:Nat->Nat->Value} {o:List (Option aa)} {w:World} {P:Program}
def cj (o:List (Option aa)) (a r:AV):Prop:= ∀(D:Nat->Prop) (nu:Nat->Nat->Value) (w:World) (x:Value),RO D nu o w->RA D nu o w a x->RA D nu [] w r x
def rR (o:List (Option aa)):List AV->List AV->Prop
 | [],[]=>True
 | a :: l,b :: m=>cj o a b∧rR o l m
 | _,_=>False
theorem cj.of {a r:AV} (n:Nat) {p:Prop} (hz:fJ o n a=some (p,r)) (hp:p):cj o a r:=fun _ _ _ x hro hra=>(kf hro n).1 a x p r hz hp hra
theorem rR.at': ∀ {l m:List AV},rR o l m->l.length=m.length∧ ∀(i:Nat) a b,l[i]? = some a->m[i]? = some b->cj o a b
 | [],[],_=>⟨rfl,fun i a b h=>by simp at h⟩
 | a :: l,b :: m,h=>by
  obtain ⟨h1,h2⟩:=rR.at' h.2;refine ⟨by simp [h1],fun i x y k1 k2=> ?_⟩
  cases i with
  | zero=>simp at k1 k2;subst k1;subst k2;exact h.1
  | succ i=>exact h2 i x y (by simpa using k1) (by simpa using k2)
theorem rR.Sz {l m:List AV} (h:rR o l m) (hro:RO D nu o w) {xs:Array Value} (hr:gk D nu o w l xs):gk D nu [] w m xs:=by
 obtain ⟨h1,h2⟩:=h.at';refine ⟨by rw [<-h1];exact hr.len,fun i c x q1 q2=> ?_⟩
 have hi:i<l.length:=by rw [h1];exact (S7.1 q1).1
 exact h2 i _ c (Tn hi) q1 D nu w x hro (hr.at' i _ x (Tn hi) q2)
def Rk (P:Program) (f:FuncId) (args:List AV) (r:AV):Prop:=(ba 0 args=true∧r.wf 0=true)∧df P f=true∧ ∀D nu w vargs,RO D nu [] w->gk D nu [] w args vargs->Calls P f vargs w (fun e w'=> ∃v,e = .returned v∧Below w.heap.size w w'∧RA (fun b=>w.heap.size<=b) nu [] w' r v)
def R4 (o:List (Option aa)) (r0 r:AV):Prop:= ∀(D:Nat->Prop) (nu:Nat->Nat->Value) (w:World) (x:Value),RO D nu o w->RA D nu o w r0 x->RA (owned nu o) nu [] w r x
open Go.Sort in
theorem Gd {α:Type} [Inhabited α] {enc:α->Value} {n cZ:Nat} {d:Array α} {os:Array Obj} (hlt:cZ<w.heap.size):(∀b,b<w.heap.size->b≠cZ->(grow (putRow enc (Go.Sort.ahead w n) cZ 0 d) os).heap[b]? = w.heap[b]?) ∧
  ∀cs T fr,w.heap[cZ]? = some (.cells cs T fr)->(grow (putRow enc (Go.Sort.ahead w n) cZ 0 d) os).heap[cZ]? = some (.cells (putCells enc 0 d cs) T fr):=by
 refine ⟨fun b hb hne=> ?_,fun cs T fr h=> ?_⟩
 ·rw [heap_grow_old _ _ (by simpa using hb)];simp only [putRow,mapBlock,UL,T4,if_neg (Ne.symm hne)]
 ·rw [heap_grow_old _ _ (by simpa using hlt)];simp only [putRow,mapBlock,UL,T4,if_true,h,Option.map_some,onCells]
def Rw {α:Type} (enc:α->Value) (l:List α):List (List AV):=l.map (fun a=>[.v (enc a)])
def vU (f:Nat->Nat) (n:Nat):List AV->List AV->Prop
 | [],[]=>True
 | a :: l,c :: m=>(c = .undef∨(a=c.aO f∧c.wf n=true))∧vU f n l m
 | _,_=>False
theorem vV {f:Nat->Nat} {n:Nat}: ∀ {l m:List AV},vU f n l m->l.length=m.length∧ ∀(i:Nat) c,m[i]? = some c->c = .undef∨(l[i]? = some (c.aO f)∧c.wf n=true)
 | [],[],_=>⟨rfl,fun i c h=>by simp at h⟩
 | a :: l,b :: m,h=>by
  obtain ⟨h1,h2⟩:=vV h.2;refine ⟨by simp [h1],fun i c hc=> ?_⟩
  cases i with
  | zero=>
   simp at hc;subst hc;rcases h.1 with e|⟨e,g⟩
   ·exact .inl e
   ·exact .inr ⟨by simp [e],g⟩
  | succ i=>simpa using h2 i c (by simpa using hc)
theorem we {s:AS} {c:Code} {Q:aJ->AS->Prop} (ids:List Nat) (t0:List AV) (o0:List (Option aa)) (hnd:ids.Nodup) (ho:ids.map (fun i=>s.o[i]?)=o0.map (fun x=>some (x.map (aa.aO (sig ids s.o.length)))))
  (hwo: ∀(k:Nat) ob,o0[k]? = some (some ob)->bQ ids.length ob.rows=true) (ht:vU (sig ids s.o.length) ids.length s.t t0) (hok:a8 c=true) (h:bK P 0 c ⟨t0,o0,s.y⟩ Q):yD P 0 c s Q:=fun f m D nu a w hZr hn hm hs hmx R hO hR=>by
 obtain ⟨ro0,own0,fz0,hdr0,_⟩:=qA ids hs.ro hnd ho hwo
 have hlen:o0.length=ids.length:=by have:=congrArg List.length ho;simpa using this.symm
 generalize sig ids s.o.length=σ at *;have hD: ∀b,(D b∧ ¬(b<w.heap.size∧ ∃id ob,id∉ids∧s.o[id]? = some (some ob)∧cr (nu id ob.hl)=some b))->D b:=fun b h=>h.1;have ro1:=ro0.wider hD;obtain ⟨t1,t2⟩:=vV ht
 have hs0:RS f D (fun k len=>nu (σ k) len) ⟨t0,o0,s.y⟩ a w:=⟨ro1,⟨by rw [<-t1];exact hs.tm.len,fun i c x h1 h2=>by
  rcases t2 i c h1 with rfl|⟨e,g⟩
  ·exact .undef x
  ·exact ((hs.tm.at' i _ x e h2).yh (f:=σ) (n:=ids.length) fz0 hdr0 c g rfl).wider hD⟩,hs.ig⟩
 refine eV hmx m hZr hn c hok _ a w D _ f.Z Q R hO ?_ hs0 h hR
 
 have hoz: ∀b,owned nu s.o b-> ¬f.Z b:=fun b hb hz=>((m.mi hm).1 b hz).2 (hs.ro.jl hb)
 have m1:=m.step (D':=fun b=>D b∧ ¬owned nu s.o b) (nu':=nu) (o':=[]) (Z':=fun b=>f.Z b∨owned nu s.o b) (w':=w) hm hs.ro
  ⟨rfl,rfl,rfl,Nat.le_refl _,fun id len hlt _=>by simp at hlt,fun b _ _ _=>⟨rfl,bb _ _⟩⟩
  (.nil _ _ _ (fun b hb=>⟨hs.ro.up b hb,fun ho=>by have:=hs.ro.aU ho;omega⟩) (hs.ro.gl.keep fun b _ hno hd=>⟨rfl,bb _ _,hd,hno⟩))
  (fun c v hr hc=>hr.tr (n:=0) (fun b hf=>⟨hf.1,bb _ _,hf.2.2,hf.2.1⟩) (fun id len hlt=>by omega) hc)
  (fun b hb=> .inl hb.1) (fun b hb=>by by_cases ho:owned nu s.o b;exact .inr (.inr ho);exact .inl ⟨hb,ho⟩)
  (fun b hb=>by
   rcases hb with hz|ho
   ·exact ⟨((m.mi hm).1 b hz).1,fun hd=>((m.mi hm).1 b hz).2 hd.1, .inl hz⟩
   ·exact ⟨hs.ro.aU ho,fun hd=>hd.2 ho, .inr (.inl ho)⟩) (by simpa using hn)
 exact m.step m1 (.nil _ _ _ (fun b hb=>⟨hs.ro.up b hb,fun ho=>by have:=hs.ro.aU ho;omega⟩) (hs.ro.gl.keep fun b _ hno hd=>⟨rfl,bb _ _,hd,hno⟩))
  ⟨rfl,rfl,rfl,Nat.le_refl _,fun id len _ hh=>by obtain ⟨x,h1,_⟩:=hh;simp at h1,fun b _ _ hz=>⟨rfl,fun ho=>hz (.inr (own0 b ho))⟩⟩ ro1
  (fun c v hr hc=>hr.tr (n:=o0.length) (fun b hf=>⟨hf.1,fun ho=>hf.2.2.2 (own0 b ho),hf.2.2.1⟩) (fun id len hlt hh=>by obtain ⟨x,h1,_⟩:=hh;simp at h1) hc)
  (fun b hb=>by by_cases ho:owned nu s.o b;exact .inr (.inr ho);exact .inl ⟨hb,ho⟩) (fun b hb=> .inl hb.1)
  (fun b hz=>⟨((m.mi hm).1 b hz).1,((m.mi hm).1 b hz).2, .inl (.inl hz)⟩) (Nat.le_trans hn (Nat.zero_le _))
theorem AM {id:Nat} {t:List AV} {o:List (Option aa)} {y:iz} {ops:Array Oper} {d:Bool} {Q:aJ->AS->Prop} (ids:List Nat) (t0:List AV) (o0:List (Option aa)) (hnd:ids.Nodup) (ho:ids.map (fun i=>o[i]?)=o0.map (fun x=>some (x.map (aa.aO (sig ids o.length)))))
  (hwo: ∀(k:Nat) ob,o0[k]? = some (some ob)->bQ ids.length ob.rows=true) (ht:vU (sig ids o.length) ids.length t t0) (hok:c9 ops=true) (h:bK P 0 (.region id ops d) ⟨t0,o0,y⟩ Q):bK P 0 (.region id ops d) ⟨t,o,y⟩ Q:=by
 have:=we (P:=P) (s:=⟨t,o,y⟩) (c:= .region id ops d) ids t0 o0 hnd ho hwo ht hok h
 cases d
 ·exact .inr this
 ·exact .inr this
end
def Sw (q:BS) (i:Nat):List (List AV):=((q.conds.drop i).flatMap (fun c=>[c.left,c.right])++q.ret).map (fun o=>[.agg (IC o)])
def Ng (l:List (ByteArray×Int)):List (List AV):=l.map (fun p=>[.v (.string p.1), .v (.int .i64 p.2)])
@[go_sem] theorem OD (n:Nat) (l:List (ByteArray×Int)):bQ n (Ng l)=true:=bg _ (fun _=>rfl) l
def SS:Option (List ByteArray)->AV
 | none=> .ct [.v (.map none), .v (.bool false)]
 | some _=> .ct [.vec 1 0, .v (.bool true)]
section
variable {P:Program}
end
def aM (l:List Nat):List (List AV):=l.map (fun k:Nat=>[.v (.int .i64 (k:Int))])
attribute [go_sem] Value.oneCell'
def OR (i:Nat):AV:= .v (.int .i64 ((8000024+i:Nat):Int))
def xo (i:Nat):List AV:=[OR i, .v (.string ⟨#[]⟩), .v (.slice none 0 0)]
def sb (f:Nat->List AV):Nat->List (List AV)
 | 0=>[]
 | n+1=>sb f n++[f n]
@[go_sem] theorem xp (f:Nat->List AV): ∀n,(sb f n).length=n
 | 0=>rfl
 | n+1=>by rw [sb,Tb,xp f n];rfl
def marksOf (f:Nat->List AV):List (List AV):=sb f 12
mutual
def s8:Ex->List AV
 | .mk k s l=>[.v (.int .i64 k), .v (.string s), .aI 3 (uQ l++marksOf xo) l.length]
def uQ:List Ex->List (List AV)
 | []=>[]
 | x :: xs=>s8 x :: uQ xs
end
theorem s9: ∀l:List Ex,uQ l=l.map s8
 | []=>rfl
 | x :: xs=>by rw [uQ,s9 xs,List.map_cons]
theorem pO (n:Nat) (a b:List (List AV)):bQ n (a++b)=(bQ n a&&bQ n b):=by
 induction a with
 | nil=>simp [bQ]
 | cons x a ih=>simp [bQ,ih,Bool.and_assoc]
theorem gz (n:Nat) (f:Nat->List AV) (h: ∀i,ba n (f i)=true): ∀k,bQ n (sb f k)=true
 | 0=>rfl
 | k+1=>by simp [sb,pO,gz n f h k,bQ,h]
theorem yq (n:Nat) (f:Nat->List AV) (h: ∀i,ba n (f i)=true):bQ n (marksOf f)=true:=gz n f h 12
@[go_sem] theorem L6 (f:Nat->List AV):(marksOf f).length=12:=xp f 12
theorem rL (n:Nat) (i:Nat):ba n (xo i)=true:=rfl
theorem tQ (n:Nat) (x:Ex):ba n (s8 x)=true:=by
 induction x using Ex.ind with
 | h k s l ih=>
  rw [s8,s9];simp only [ba,AV.wf,Bool.and_true,Bool.true_and,pO,yq n _ (rL n)];exact vB (fun r hr=>by obtain ⟨x,hx,rfl⟩:=List.mem_map.1 hr;exact ih x hx)
theorem yp (n:Nat) (l:List Ex):bQ n (l.map s8)=true:=bg _ (tQ n) l
attribute [go_sem] tQ yp pO
@[go_sem] theorem PK (n k:Nat):bQ n (sb xo k)=true:=gz n _ (rL n) k
@[go_sem] theorem DP (n:Nat):bQ n (marksOf xo)=true:=yq n _ (rL n)
def Ex.lens (n:Nat) (x:Ex):Prop:= ∀y,y∈au x->y.kids.length<=n
def J8 (i:Nat):List AV:=[.v (.string ⟨#[]⟩), .v (.string ⟨#[]⟩), .v (.bool false), .v (.string ⟨#[109]⟩), .v (.string ⟨#[]⟩),OR i, .v (.string ⟨#[]⟩), .v (.slice none 0 0)]
def J6 (i:Nat):List AV:=[OR i, .v (.int .i64 0), .v (.string ⟨#[]⟩), .v (.string ⟨#[]⟩), .v (.int .i64 0), .v (.int .i64 0), .v (.string ⟨#[]⟩), .v (.int .i64 0), .v (.string ⟨#[]⟩), .v (.string ⟨#[]⟩), .v (.int .i64 0), .v (.int .i64 0), .v (.string ⟨#[]⟩)]
def J7 (i:Nat):List AV:=[.v (.int .i64 0), .v (.string ⟨#[]⟩), .v (.string ⟨#[]⟩), .v (.int .i64 0),OR i, .v (.string ⟨#[]⟩)]
def FF (p:lz):List AV:=[.v (.string p.aG), .v (.string p.to), .v (.bool p.path), .v (.string p.label), .v (.string p.name), .v (.int .i64 p.expr.kind), .v (.string p.expr.label), .aI 3 (p.expr.kids.map s8++marksOf xo) p.expr.kids.length]
theorem DO (n:Nat) (p:lz):ba n (FF p)=true:=by simp only [FF,ba,AV.wf,pO,yp,DP,Bool.and_true,Bool.and_self]
@[go_sem] theorem OC (n:Nat) (l:List lz):bQ n (l.map FF)=true:=bg _ (DO n) l
@[go_sem] theorem PO (n k:Nat):bQ n (sb J8 k)=true:=gz n _ (fun _=>rfl) k
@[go_sem] theorem Mp (n:Nat):bQ n (marksOf J8)=true:=gz n _ (fun _=>rfl) 12
@[go_sem] theorem PJ (n k:Nat):bQ n (sb J6 k)=true:=gz n _ (fun _=>rfl) k
@[go_sem] theorem Mn (n:Nat):bQ n (marksOf J6)=true:=gz n _ (fun _=>rfl) 12
@[go_sem] theorem PN (n k:Nat):bQ n (sb J7 k)=true:=gz n _ (fun _=>rfl) k
@[go_sem] theorem Mo (n:Nat):bQ n (marksOf J7)=true:=gz n _ (fun _=>rfl) 12
def BS.lens (n:Nat) (q:BS):Prop:=q.pt.length<=n∧q.conds.length<=n∧q.ret.length<=n∧ ∀p,p∈q.pt->p.expr.lens n
inductive Le:AV->AV->Prop
 | refl (a:AV):Le a a
 | fp (p:(Nat->Prop)->World->Value->Prop) (a b:AV):Le a b->Le (.fp p a) b
 | nil (z:Nat):Le (.v (.slice none 0 0)) (.aI z [] 0)
 | agg (cs ds:List AV):cs.length=ds.length->(∀(i:Nat) c d,cs[i]? = some c->ds[i]? = some d->Le c d)->Le (.agg cs) (.agg ds)
 | aI (z:Nat) (rows rows':List (List AV)) (len:Nat):len<=rows'.length->rows'.length<=rows.length->(∀(i:Nat) r r',rows[i]? = some r->rows'[i]? = some r'->r.length=r'.length) ->
   (∀(i j:Nat) r r' c c',rows[i]? = some r->rows'[i]? = some r'->r[j]? = some c->r'[j]? = some c'->Le c c')->Le (.aI z rows len) (.aI z rows' len)
section
variable {D:Nat->Prop} {nu:Nat->Nat->Value} {o:List (Option aa)} {w:World} {P:Program}
theorem RA.le {a b:AV} (h:Le a b): ∀ {x:Value},RA D nu o w a x->RA D nu o w b x:=by
 induction h with
 | refl a=>exact fun h=>h
 | fp p a b _ ih=>intro x h;cases h with|fp _ _ _ S h0 h1 hc h2 h3=>exact ih h3
 | nil z=>intro x h;obtain rfl:=h.bZ;exact .bf z
 | agg cs ds hl _ ih=>
  intro x h
  cases h with
  | agg _ xs h1 h2 h3=>
   refine .agg ds xs (by omega) (fun i d y hd hy=> ?_) h3
   have hi:i<cs.length:=by have:=(S7.1 hd).1;omega
   exact ih i cs[i] d (Tn hi) hd (h2 i _ y (Tn hi) hy)
 | aI z rows rows' len h1 h2 h3 _ ih=>
  intro x h;have up: ∀(i:Nat) r',rows'[i]? = some r'-> ∃r,rows[i]? = some r:=fun i r' hr=>⟨_,Tn (by have:=(S7.1 hr).1;omega)⟩
  have upj: ∀(i j:Nat) r' c',rows'[i]? = some r'->r'[j]? = some c'-> ∃r c,rows[i]? = some r∧r[j]? = some c:=fun i j r' c' hr hc=>by
   obtain ⟨r,hr'⟩:=up i r' hr;exact ⟨r,_,hr',Tn (by have:=h3 i r r' hr' hr;have:=(S7.1 hc).1;omega)⟩
  cases h with
  | bf=>
   have:rows'=[]:=TL (by simpa using h2)
   subst this;exact .bf z
  | bA _ a=>
   have:rows'=[]:=TL (by simpa using h2)
   subst this;exact .bA z a
  | aI _ _ _ b off cap f k1 k2 k3 k4 k5 k6 k7 k8=>
   refine .aI z rows' len b off cap f h1 (by omega) k3 (fun hne=>k4 (fun e=>hne (by subst e;exact TL (by simpa using h2)))) (fun i r' hr=> ?_) (fun i j r' c' hr hc=> ?_) (fun i j r' c' hr hc=> ?_) (fun i j r' c' hr hc=> ?_)
   ·obtain ⟨r,hr'⟩:=up i r' hr;rw [<-h3 i r r' hr' hr];exact k5 i r hr'
   ·obtain ⟨r,c,q1,q2⟩:=upj i j r' c' hr hc;exact k6 i j r c q1 q2
   ·obtain ⟨r,c,q1,q2⟩:=upj i j r' c' hr hc;exact ih i j r r' c c' q1 hr q2 hc (k7 i j r c q1 q2)
   ·obtain ⟨r,c,q1,q2⟩:=upj i j r' c' hr hc;exact k8 i j r c q1 q2
def BQ (cs ds:List AV):Prop:=cs.length=ds.length∧ ∀(i:Nat) c d,cs[i]? = some c->ds[i]? = some d->Le c d
theorem BQ.nil:BQ [] []:=⟨rfl,fun i c d h=>by simp at h⟩
theorem BQ.cons {c d:AV} {cs ds:List AV} (h:Le c d) (k:BQ cs ds):BQ (c :: cs) (d :: ds):=⟨by simp [k.1],fun i x y hx hy=>by
 cases i with
 | zero=>cases hx;cases hy;exact h
 | succ i=>exact k.2 i x y hx hy⟩
theorem BQ.agg {cs ds:List AV} (h:BQ cs ds):Le (.agg cs) (.agg ds):= .agg cs ds h.1 h.2
theorem Le.rows {α:Type} {z:Nat} {f g:α->List AV} {xs:List α} {more:List (List AV)} (h: ∀x,x∈xs->BQ (f x) (g x)):Le (.aI z (xs.map f++more) xs.length) (.aI z (xs.map g) xs.length):=by
 have key: ∀(i:Nat) r r',(xs.map f++more)[i]? = some r->(xs.map g)[i]? = some r'->BQ r r':=fun i r r' h1 h2=>by
  have hi:i<xs.length:=by simpa using (S7.1 h2).1
  rw [List.getElem?_append_left (by simpa using hi)] at h1;rw [List.getElem?_map,Tn hi] at h1 h2;cases h1;cases h2;exact h _ (List.getElem_mem hi)
 exact .aI z _ _ _ (by simp) (by simp) (fun i r r' h1 h2=>(key i r r' h1 h2).1) (fun i j r r' c c' h1 h2 h3 h4=>(key i r r' h1 h2).2 j c c' h3 h4)
theorem gk.le {cs ds:List AV} {xs:Array Value} (h:BQ cs ds) (k:gk D nu o w cs xs):gk D nu o w ds xs:=⟨by rw [<-h.1];exact k.len,fun i d x hd hx=>by
 have hi:i<cs.length:=by have:=(S7.1 hd).1;have:=h.1;omega
 exact (k.at' i cs[i] x (Tn hi) hx).le (h.2 i _ d (Tn hi) hd)⟩
theorem af.le {f:FuncId} {args args':List AV} {r:AV} (h:af P f args r) (hw:ba 0 args'=true) (hl:BQ args' args):af P f args' r:=h.args hw (fun _ _ _ _ k=>k.le hl)
end
section
variable {P:Program}
end
def OU:Go.Shelf.Ren:=⟨fun|189=>112|125=>135|257=>144|128=>171|129=>172|294=>179|295=>180|296=>181|297=>182|298=>183|299=>184|216=>185|300=>186|301=>187|328=>210|329=>204|330=>205|331=>211|332=>212|215=>202|343=>223|n=>n,fun|28=>56|3=>3|46=>212|0=>0|51=>184|53=>256|4=>4|183=>249|182=>248|131=>105|5=>5|9=>9|218=>279|222=>283|228=>296|229=>297|n=>n,fun n=>n⟩
def OM:Go.Shelf.Ren:=⟨fun|20=>113|n=>n,fun|22=>56|3=>3|4=>4|0=>0|n=>n,fun n=>n⟩
theorem iX (b:Nat) (l:List Nat):bQ b (aM l)=true:=bg _ (fun _=>rfl) _
attribute [go_sem] iX
theorem w6: ∀(l:List Nat) (n i:Nat),l[i]? = some n->l.idxOf n<=i
 | [],n,i,h=>by simp at h
 | x :: l,n,0,h=>by simp at h;subst h;simp
 | x :: l,n,i+1,h=>by
  have:=w6 l n i (by simpa using h)
  rw [List.idxOf_cons];cases x==n<;>simp only [cond_true,cond_false]<;>omega
def OP:Go.Shelf.Ren:=⟨fun|4=>111|n=>n,fun|22=>98|25=>3|3=>3|4=>4|9=>9|20=>20|0=>0|n=>n,fun n=>n⟩
def R6 (w:List ByteArray) (x:Ex):Prop:= ∀fr:List Nat,fr.Pairwise (· < ·)->(∀j,j∈fr->j<=w.length)->af Tryz.prog 48 [.agg [ez w], .agg (bH x), .aI 1 (aM fr) fr.length] (.aI 1 (aM (bh w (Lg x) fr)) (bh w (Lg x) fr).length)
inductive yH:Ex->Prop
 | lab (s:ByteArray):yH (.mk 1 s [])
 | many (k:Int) (s:ByteArray) (l:List Ex):(k=2∨k=3)->l.length<=900->(∀x∈l,yH x)->yH (.mk k s l)
 | one (k:Int) (s:ByteArray) (x:Ex):(k=4∨k=5∨k=6)->yH x->yH (.mk k s [x])
theorem oT {α β:Type} (f:α->List β): ∀(l:List α) (x:α),x∈l->(f x).length<=(l.flatMap f).length
 | y :: l,x,h=>by
  rw [List.flatMap_cons,Tb]
  rcases List.mem_cons.1 h with rfl|h
  ·omega
  ·have:=oT f l x h;omega
theorem jn (k:Int) (s:ByteArray) (l:List Ex):(au (.mk k s l)).length=1+(l.flatMap au).length:=by
 rw [au,bS,List.length_cons];omega
theorem wR (x:Ex):1<=(au x).length:=by
 obtain ⟨k,s,l⟩:=x;rw [jn];omega
theorem E4 (l:List Ex):l.length<=(l.flatMap au).length:=by
 induction l with
 | nil=>simp
 | cons x l ih=>rw [List.flatMap_cons,Tb,List.length_cons];have:=wR x;omega
theorem oa (x:Ex): ∀y,y∈au x->(au y).length<=(au x).length:=by
 induction x using Ex.ind with
 | h k s l ih=>
  intro y hy;rw [au,bS] at hy
  rcases List.mem_cons.1 hy with rfl|hy
  ·exact Nat.le_refl _
  ·obtain ⟨z,hz,hy⟩:=List.mem_flatMap.1 hy;have h1:=ih z hz y hy;have h2:=oT au l z hz;rw [jn];omega
theorem uN (x:Ex):x.kids.length<=(au x).length:=by
 obtain ⟨k,s,l⟩:=x;rw [jn]
 have:=E4 l
 simp only [Ex.kids];omega
end
theorem sN (x:Ex) (h:x.ok):af Tryz.prog 46 [.agg (bH x)] (.v (.bool (aB x))):=
 .qT (by kernel_rfl) (by simp only [ba,AV.wf,kI,UM]) (fun D nu w vargs hh=>by
  obtain ⟨a,rfl,ha⟩:=dP hh;obtain ⟨ca,rfl,ka⟩:=Gj ha
  exact rM x ca w (Gp x ca ka) h)
def w7 (p:Ex->Bool):List Ex->Nat->Int
 | [],_=> -1
 | x :: xs,i=>if p x then (i:Int) else w7 p xs (i+1)
theorem w8 (p:Ex->Bool): ∀(l:List Ex) (i:Nat),decide (0<=w7 p l i)=l.any p
 | [],i=>rfl
 | x :: xs,i=>by
  rw [w7,List.any_cons]
  cases p x with
  | true=>simp
  | false=>simpa using w8 p xs (i+1)
theorem uK {g:FuncId} (p:Ex->Bool) (l:List Ex) (hl:l.length<=1000000) (H: ∀x,x∈l->af Tryz.prog g [.agg (bH x)] (.v (.bool (p x)))) :
  af Tryz.prog 130 [.aI 3 (l.map bH) l.length, .fn g [] []] (.v (.int .i64 (w7 p l 0))):=by
 (refine af.enter Tryz.func130 rfl (by kernel_rfl) (by kernel_rfl) rfl (by first|rfl|(simp only [go_sem,UM,Um,Us])) (by first|rfl|(simp only [go_sem,UM,Um,Us])) ?_;simp only [Tryz.ntmps130,Tryz.results130,Tc,S6,Nat.reduceAdd,Nat.reduceSub,UN,UO,UP,UQ])
 repeat (first|(with_reducible first|refine ag.up ?_|refine fun (K:AK) hK=> ?_|(refine hK _ ?_;clear hK K))|simp only [go_sem]|with_reducible refine wA ?_|clear hK K)
 refine cI (ι:=Nat) 8 (fun i=>[(5, .undef),(8, .v (.int .i64 i))]) (fun i=>l.length - i) (fun i=>i<=l.length∧w7 p l 0=w7 p (l.drop i) i) 0 ⟨Nat.zero_le _,rfl⟩ ?_ ?_
 ·(refine aq ?_ ?_ ?_<;>simp only [aG,UG,UH,UN,UO,bd,bj,AV.v.injEq,Value.int.injEq,Value.bool.injEq,Value.string.injEq,AV.vec.injEq,AV.ptr.injEq,true_or,or_true,false_or,or_false,aa.mk.injEq,forall_eq_apply_imp_iff,forall_eq,forall_eq',go_sem])
  rfl
 rintro i ⟨hi,hx⟩ K hK
 repeat (first|(with_reducible first|refine ag.up ?_|refine fun (K:AK) hK=> ?_|(refine hK _ ?_;clear hK K))|simp only [go_sem]|with_reducible refine wA ?_|clear hK K)
 refine fU.part (fun h=> ?_) (fun h=> ?_)
 ·have hlt:i<l.length:=by (try simp only [bne_iff_ne,ne_eq,bne_eq_false_iff_eq,beq_iff_eq,beq_eq_false_iff_ne,decide_eq_true_eq,decide_eq_false_iff_not,UR,Int.natCast_inj,Int.ofNat_lt,Int.ofNat_le] at h);omega
  have eW:=aD (k:=i) (by omega);have eG:=getD_map bH l i [] hlt;have HX:=H l[i] (List.getElem_mem hlt);rw [US hlt,w7] at hx;simp only [aS] at HX eG
  repeat (first|(with_reducible first|refine ag.up ?_|refine fun (K:AK) hK=> ?_|(refine hK _ ?_;clear hK K))|simp only [go_sem,eG,aS]|with_reducible refine wA ?_|clear hK K)
  refine ab.one HX ?_
  rcases UT (p l[i]) with hp|hp
  ·rw [hp,if_pos rfl] at hx
   repeat (first|(with_reducible first|refine ag.up ?_|refine fun (K:AK) hK=> ?_|(refine hK _ ?_;clear hK K))|simp only [go_sem,hp]|with_reducible refine wA ?_|clear hK K)
   rw [hx]
  ·rw [hp,if_neg (by decide)] at hx
   repeat (first|(with_reducible first|refine ag.up ?_|refine fun (K:AK) hK=> ?_|(refine hK _ ?_;clear hK K))|simp only [go_sem,hp,eW]|with_reducible refine wA ?_|clear hK K)
   exact aP.mk (i+1) ⟨by omega,hx⟩ (by omega) (by (refine aq ?_ ?_ ?_<;>simp only [aG,UG,UH,UN,UO,bd,bj,AV.v.injEq,Value.int.injEq,Value.bool.injEq,Value.string.injEq,AV.vec.injEq,AV.ptr.injEq,true_or,or_true,false_or,or_false,aa.mk.injEq,forall_eq_apply_imp_iff,forall_eq,forall_eq',go_sem]))
 ·have:i=l.length:=by (try simp only [bne_iff_ne,ne_eq,bne_eq_false_iff_eq,beq_iff_eq,beq_eq_false_iff_ne,decide_eq_true_eq,decide_eq_false_iff_not,UR,Int.natCast_inj,Int.ofNat_lt,Int.ofNat_le] at h);omega
  rw [this,List.drop_length,w7] at hx
  repeat (first|(with_reducible first|refine ag.up ?_|refine fun (K:AK) hK=> ?_|(refine hK _ ?_;clear hK K))|simp only [go_sem]|with_reducible refine wA ?_|clear hK K)
  rw [hx]
theorem jL {g:FuncId} (p:Ex->Bool) (l:List Ex) (hl:l.length<=1000000) (H: ∀x,x∈l->af Tryz.prog g [.agg (bH x)] (.v (.bool (p x)))) :
  af Tryz.prog 90 [.aI 3 (l.map bH) l.length, .fn g [] []] (.v (.bool (l.any p))):=by
 have C:=uK p l hl H
 (refine af.enter Tryz.func90 rfl (by kernel_rfl) (by kernel_rfl) rfl (by first|rfl|(simp only [go_sem,UM,Um,Us])) (by first|rfl|(simp only [go_sem,UM,Um,Us])) ?_;simp only [Tryz.ntmps90,Tryz.results90,Tc,S6,Nat.reduceAdd,Nat.reduceSub,UN,UO,UP,UQ])
 repeat (first|(with_reducible first|refine ag.up ?_|refine fun (K:AK) hK=> ?_|(refine hK _ ?_;clear hK K))|simp only [go_sem]|clear hK K)
 refine ab.one C ?_
 repeat (first|(with_reducible first|refine ag.up ?_|refine fun (K:AK) hK=> ?_|(refine hK _ ?_;clear hK K))|simp only [go_sem]|clear hK K)
 rw [w8]
theorem zN (x:Ex) (H:af Tryz.prog 51 [.agg (bH x)] (.v (.bool (aT x)))):af Tryz.prog 91 [.agg (bH x)] (.v (.bool (!aT x))):=by
 simp only [aS] at H ⊢
 (refine af.enter Tryz.func91 rfl (by kernel_rfl) (by kernel_rfl) rfl (by first|rfl|(simp only [go_sem,UM,Um,Us])) (by first|rfl|(simp only [go_sem,UM,Um,Us])) ?_;simp only [Tryz.ntmps91,Tryz.results91,Tc,S6,Nat.reduceAdd,Nat.reduceSub,UN,UO,UP,UQ])
 repeat (first|(with_reducible first|refine ag.up ?_|refine fun (K:AK) hK=> ?_|(refine hK _ ?_;clear hK K))|simp only [go_sem]|clear hK K)
 refine ab.one H ?_
 repeat (first|(with_reducible first|refine ag.up ?_|refine fun (K:AK) hK=> ?_|(refine hK _ ?_;clear hK K))|simp only [go_sem]|clear hK K)
theorem Iz (x:Ex) (hx:x.lens 1000000):af Tryz.prog 51 [.agg (bH x)] (.v (.bool (aT x))):=by
 induction x using Ex.ind with
 | h k s l ih=>
  have hl:l.length<=1000000:=hx (.mk k s l) (by rw [au];exact Ua);have H:=fun x (h:x∈l)=>ih x h (fun y hy=>hx y (by rw [au,bS];exact T8 _ (UU.2 ⟨x,h,hy⟩)));have C1:=jL aT l hl H;have C2:=jL (fun x=> !aT x) l hl (fun x h=>zN x (H x h))
  have e1:l.all aT = !l.any (fun x=> !aT x):=by simp [List.all_eq_not_any_not]
  simp only [aS,Ex.kind,Ex.label,Ex.kids,aT,lX,jm]
  by_cases h4:k=4
  ·subst h4
   (refine af.enter Tryz.func51 rfl (by kernel_rfl) (by kernel_rfl) rfl (by first|rfl|(simp only [go_sem,UM,Um,Us])) (by first|rfl|(simp only [go_sem,UM,Um,Us])) ?_;simp only [Tryz.ntmps51,Tryz.results51,Tc,S6,Nat.reduceAdd,Nat.reduceSub,UN,UO,UP,UQ])
   repeat (first|(with_reducible first|refine ag.up ?_|refine fun (K:AK) hK=> ?_|(refine hK _ ?_;clear hK K))|simp only [go_sem]|with_reducible refine wA ?_|clear hK K)
  ·by_cases h6:k=6
   ·subst h6
    (refine af.enter Tryz.func51 rfl (by kernel_rfl) (by kernel_rfl) rfl (by first|rfl|(simp only [go_sem,UM,Um,Us])) (by first|rfl|(simp only [go_sem,UM,Um,Us])) ?_;simp only [Tryz.ntmps51,Tryz.results51,Tc,S6,Nat.reduceAdd,Nat.reduceSub,UN,UO,UP,UQ])
    repeat (first|(with_reducible first|refine ag.up ?_|refine fun (K:AK) hK=> ?_|(refine hK _ ?_;clear hK K))|simp only [go_sem]|with_reducible refine wA ?_|clear hK K)
   ·by_cases h3:k=3
    ·subst h3
     (refine af.enter Tryz.func51 rfl (by kernel_rfl) (by kernel_rfl) rfl (by first|rfl|(simp only [go_sem,UM,Um,Us])) (by first|rfl|(simp only [go_sem,UM,Um,Us])) ?_;simp only [Tryz.ntmps51,Tryz.results51,Tc,S6,Nat.reduceAdd,Nat.reduceSub,UN,UO,UP,UQ])
     repeat (first|(with_reducible first|refine ag.up ?_|refine fun (K:AK) hK=> ?_|(refine hK _ ?_;clear hK K))|simp only [go_sem]|with_reducible refine wA ?_|clear hK K)
     refine ab.one C1 ?_
     repeat (first|(with_reducible first|refine ag.up ?_|refine fun (K:AK) hK=> ?_|(refine hK _ ?_;clear hK K))|simp only [go_sem]|with_reducible refine wA ?_|clear hK K)
    ·by_cases h2:k=2
     ·subst h2
      (refine af.enter Tryz.func51 rfl (by kernel_rfl) (by kernel_rfl) rfl (by first|rfl|(simp only [go_sem,UM,Um,Us])) (by first|rfl|(simp only [go_sem,UM,Um,Us])) ?_;simp only [Tryz.ntmps51,Tryz.results51,Tc,S6,Nat.reduceAdd,Nat.reduceSub,UN,UO,UP,UQ])
      repeat (first|(with_reducible first|refine ag.up ?_|refine fun (K:AK) hK=> ?_|(refine hK _ ?_;clear hK K))|simp only [go_sem]|with_reducible refine wA ?_|clear hK K)
      refine ab.one C2 ?_
      repeat (first|(with_reducible first|refine ag.up ?_|refine fun (K:AK) hK=> ?_|(refine hK _ ?_;clear hK K))|simp only [go_sem]|with_reducible refine wA ?_|clear hK K)
      rw [e1]
     ·by_cases h5:k=5
      ·subst h5
       (refine af.enter Tryz.func51 rfl (by kernel_rfl) (by kernel_rfl) rfl (by first|rfl|(simp only [go_sem,UM,Um,Us])) (by first|rfl|(simp only [go_sem,UM,Um,Us])) ?_;simp only [Tryz.ntmps51,Tryz.results51,Tc,S6,Nat.reduceAdd,Nat.reduceSub,UN,UO,UP,UQ])
       repeat (first|(with_reducible first|refine ag.up ?_|refine fun (K:AK) hK=> ?_|(refine hK _ ?_;clear hK K))|simp only [go_sem]|with_reducible refine wA ?_|clear hK K)
       refine ab.one C2 ?_
       repeat (first|(with_reducible first|refine ag.up ?_|refine fun (K:AK) hK=> ?_|(refine hK _ ?_;clear hK K))|simp only [go_sem]|with_reducible refine wA ?_|clear hK K)
       rw [e1]
      ·have f4:(k==4)=false:=beq_false_of_ne h4;have f6:(k==6)=false:=beq_false_of_ne h6;have f3:(k==3)=false:=beq_false_of_ne h3;have f2:(k==2)=false:=beq_false_of_ne h2;have f5:(k==5)=false:=beq_false_of_ne h5;simp only [if_neg h4,if_neg h6,if_neg h3,if_neg h2,if_neg h5]
       (refine af.enter Tryz.func51 rfl (by kernel_rfl) (by kernel_rfl) rfl (by first|rfl|(simp only [go_sem,UM,Um,Us])) (by first|rfl|(simp only [go_sem,UM,Um,Us])) ?_;simp only [Tryz.ntmps51,Tryz.results51,Tc,S6,Nat.reduceAdd,Nat.reduceSub,UN,UO,UP,UQ])
       repeat (first|(with_reducible first|refine ag.up ?_|refine fun (K:AK) hK=> ?_|(refine hK _ ?_;clear hK K))|simp only [go_sem,f4,f6,f3,f2,f5]|with_reducible refine wA ?_|clear hK K)
def di (x:Ex):Bool:=aB x&&aT x
theorem Ad {x:Ex} (h:aB x=true):x.lens 1000000:=fun y hy=>by
 simp only [aB,TY,decide_eq_true_eq] at h;have h1:=oa x y hy;have h2:=uN y;omega
theorem tV (x:Ex) (h:x.ok):af Tryz.prog 28 [.agg (bH x)] (.v (.bool (di x))):=by
 have R:=sN x h
 rcases UT (aB x) with hr|hr
 ·have E:=Iz x (Ad hr);rw [hr] at R;rw [show di x=aT x by rw [di,hr];rfl];simp only [aS] at R E ⊢
  (refine af.enter Tryz.func28 rfl (by kernel_rfl) (by kernel_rfl) rfl (by first|rfl|(simp only [go_sem,UM,Um,Us])) (by first|rfl|(simp only [go_sem,UM,Um,Us])) ?_;simp only [Tryz.ntmps28,Tryz.results28,Tc,S6,Nat.reduceAdd,Nat.reduceSub,UN,UO,UP,UQ])
  repeat (first|(with_reducible first|refine ag.up ?_|refine fun (K:AK) hK=> ?_|(refine hK _ ?_;clear hK K))|simp only [go_sem]|clear hK K)
  refine ab.one R ?_
  repeat (first|(with_reducible first|refine ag.up ?_|refine fun (K:AK) hK=> ?_|(refine hK _ ?_;clear hK K))|simp only [go_sem]|clear hK K)
  refine ab.one E ?_
  repeat (first|(with_reducible first|refine ag.up ?_|refine fun (K:AK) hK=> ?_|(refine hK _ ?_;clear hK K))|simp only [go_sem]|clear hK K)
 ·rw [hr] at R;rw [show di x=false by rw [di,hr];rfl];simp only [aS] at R ⊢
  (refine af.enter Tryz.func28 rfl (by kernel_rfl) (by kernel_rfl) rfl (by first|rfl|(simp only [go_sem,UM,Um,Us])) (by first|rfl|(simp only [go_sem,UM,Um,Us])) ?_;simp only [Tryz.ntmps28,Tryz.results28,Tc,S6,Nat.reduceAdd,Nat.reduceSub,UN,UO,UP,UQ])
  repeat (first|(with_reducible first|refine ag.up ?_|refine fun (K:AK) hK=> ?_|(refine hK _ ?_;clear hK K))|simp only [go_sem]|clear hK K)
  refine ab.one R ?_
  repeat (first|(with_reducible first|refine ag.up ?_|refine fun (K:AK) hK=> ?_|(refine hK _ ?_;clear hK K))|simp only [go_sem,Go.undef]|clear hK K)
theorem Dh (x:Ex) (h:(au x).all Ex.part=true) (hn:(au x).length<=900):Fit x∧yH x:=by
 induction x using Ex.ind with
 | h k s l ih=>
  have hp:bp k s l.length=true:=Ui.1 h (.mk k s l) (by rw [au];exact Ua)
  have hm: ∀x,x∈l->x∈au (.mk k s l):=fun x hx=>by
   rw [au,bS];exact T8 _ (UU.2 ⟨x,hx,by obtain ⟨k',s',l'⟩:=x;rw [au];exact Ua⟩)
  have H:=fun x (hx:x∈l)=>ih x hx (Ui.2 fun y hy=>Ui.1 h y (by rw [au,bS];exact T8 _ (UU.2 ⟨x,hx,hy⟩))) (by
   have h1:=oa (.mk k s l) x (hm x hx)
   omega)
  have hl:l.length<=900:=by have:=uN (.mk k s l);simp only [Ex.kids] at this;omega
  unfold bp at hp
  by_cases h1:k=1
  ·subst h1;simp only [BEq.rfl,if_true,TY,decide_eq_true_eq] at hp;have hl0:l=[]:=List.eq_nil_of_length_eq_zero hp.1;subst hl0;exact ⟨.lab s, .lab s⟩
  ·rw [if_neg (by simpa using h1)] at hp
   by_cases h2:k=2∨k=3
   ·rw [if_pos (by simpa using h2)] at hp;simp only [TY,decide_eq_true_eq] at hp;exact ⟨.many k s l h2 hp.1 (fun x hx=>(H x hx).1), .many k s l h2 hl (fun x hx=>(H x hx).2)⟩
   ·rw [if_neg (by simpa using h2)] at hp
    by_cases h3:k=4∨k=5∨k=6
    ·rw [if_pos (by simpa [or_assoc] using h3)] at hp;simp only [TY,decide_eq_true_eq] at hp
     obtain ⟨x,rfl⟩: ∃x,l=[x]:=by
      match l,hp.1 with
      | [x],_=>exact ⟨x,rfl⟩
     exact ⟨.one k s x h3 (H x (by simp)).1, .one k s x h3 (H x (by simp)).2⟩
    ·rw [if_neg (by simpa [or_assoc] using h3)] at hp;cases hp
theorem lh {x:Ex} (h:aB x=true):Fit x∧yH x:=by
 simp only [aB,TY,decide_eq_true_eq] at h;exact Dh x h.2 (by omega)
noncomputable def pC (x:Ex) (w:List ByteArray):Bool:=aB x && @decide (Lg x w) (Classical.propDecidable _)
theorem oQ {x:Ex} {w:List ByteArray}:pC x w=true↔aB x=true∧Lg x w:=by simp [pC]
theorem kJ (n:Int):IntKind.u32.wrap n=n % 4294967296:=by simp [IntKind.wrap,IntKind.signed,IntKind.bits]
theorem Am (m:BitVec 32):IntKind.u32.wrap (m.toNat:Int)=m.toNat:=by
 rw [kJ];have:=m.isLt;omega
theorem gE (m:BitVec 32):BitVec.ofInt 32 (m.toNat:Int)=m:=by
 simp
theorem Bd (m:BitVec 32):IntKind.u32.wrap ((m.toNat:Int) - 1)=(m - 1#32).toNat:=by
 rw [kJ,BitVec.toNat_sub];have:=m.isLt;simp;omega
theorem I4 (m:BitVec 32):IntKind.u32.wrap (0 - (m.toNat:Int))=(-m).toNat:=by
 rw [kJ,BitVec.toNat_neg];have:=m.isLt;omega
theorem I3 (m:BitVec 32):IntKind.u32.wrap ((m.toNat:Int) * 125613361)=(m * 125613361#32).toNat:=by
 rw [kJ,BitVec.toNat_mul];simp
theorem I8 (m:BitVec 32):(m.toNat:Int).fdiv (2 ^ min 27 32)=(m >>> 27).toNat:=by
 show (m.toNat:Int).fdiv (2 ^ 27)=_;rw [BitVec.toNat_ushiftRight,Nat.shiftRight_eq_div_pow];simp [Int.fdiv_eq_ediv_of_nonneg]
theorem I7 (p:Nat):IntKind.u32.wrap (1 * 2 ^ p)=(1#32 <<< p).toNat:=by
 rw [kJ,BitVec.toNat_shiftLeft,Nat.shiftLeft_eq];simp
theorem I6 (m:BitVec 32):decide ((0:Int)<(m.toNat:Int))=(m !=0#32):=by
 by_cases h:m=0#32
 ·subst h;simp
 ·have e:m.toNat≠0:=fun e=>h (UW (by simpa using e));rw [bne_iff_ne.2 h];exact decide_eq_true (by omega)
theorem FO (m:BitVec 32):((m.toNat:Int)==0)=(m==0#32):=by
 by_cases h:m=0#32
 ·subst h;simp
 ·have e:m.toNat≠0:=fun e=>h (UW (by simpa using e));rw [beq_eq_false_iff_ne.2 h];exact beq_eq_false_iff_ne.2 (by omega)
theorem uV (m n:BitVec 32):Fh .u32 m.toNat n.toNat=(m &&& n).toNat:=by
 rw [Fh];show IntKind.u32.wrap ((BitVec.ofInt 32 _ &&& BitVec.ofInt 32 _).toNat:Int)=_;rw [gE,gE,Am]
theorem jv (m n:BitVec 32):OQ .u32 m.toNat n.toNat=(m ||| n).toNat:=by
 rw [OQ];show IntKind.u32.wrap ((BitVec.ofInt 32 _ ||| BitVec.ofInt 32 _).toNat:Int)=_;rw [gE,gE,Am]
theorem I5 (m n:BitVec 32):pG .u32 m.toNat n.toNat=(m &&& ~~~ n).toNat:=by
 rw [pG];show IntKind.u32.wrap ((BitVec.ofInt 32 _ &&& ~~~ BitVec.ofInt 32 _).toNat:Int)=_;rw [gE,gE,Am]
def ai (m:BitVec 32):List Nat:=(List.range 32).filter m.getLsbD
theorem aK {m:BitVec 32} {p:Nat}:p∈ai m↔m.getLsbD p=true:=by
 simp only [ai,List.mem_filter,List.mem_range];exact ⟨fun h=>h.2,fun h=>⟨UX h,h⟩⟩
theorem lT (m:BitVec 32):(ai m).Pairwise (· < ·):=List.pairwise_lt_range.filter _
theorem Cl (m:BitVec 32):(ai m).length<=32:=by
 have:=List.length_filter_le m.getLsbD (List.range 32)
 simpa [ai] using this
theorem jj:ai 0#32=[]:=by simp [ai]
theorem nJ {m:BitVec 32} (h:ai m=[]):m=0#32:=by
 refine UY fun i hi=> ?_
 cases hb:m.getLsbD i with
 | false=>simp
 | true=>have:=aK.2 hb;rw [h] at this;cases this
theorem mO {m:BitVec 32} {p:Nat} {r:List Nat} (h:ai m=p :: r):m.getLsbD p=true∧p<32∧(∀j,j<p->m.getLsbD j=false)∧ ∀j,j∈r↔(m.getLsbD j=true∧p<j):=by
 have hm:m.getLsbD p=true:=aK.1 (by rw [h];simp);have hr:=lT m;rw [h,List.pairwise_cons] at hr
 refine ⟨hm,UX hm,fun j hj=> ?_,fun j=>⟨fun hj=>⟨aK.1 (by rw [h];exact T8 _ hj),hr.1 j hj⟩,fun hj=> ?_⟩⟩
 ·cases hb:m.getLsbD j with
  | false=>rfl
  | true=>
   have:=aK.2 hb
   rw [h,List.mem_cons] at this
   rcases this with rfl|hh
   ·omega
   ·have:=hr.1 j hh;omega
 ·have:=aK.2 hj.1
  rw [h,List.mem_cons] at this
  rcases this with rfl|hh
  ·omega
  ·exact hh
theorem IX {m:BitVec 32} {p:Nat} {r:List Nat} (h:ai m=p :: r):m &&& -m=1#32 <<< p:=by
 obtain ⟨h1,h2,h3,h4⟩:=mO h;refine UY fun i hi=> ?_;rw [UZ,U0,BitVec.getLsbD_shiftLeft,BitVec.getLsbD_one]
 rcases Nat.lt_trichotomy i p with q|q|q
 ·simp [h3 i q,q]
 ·subst q
  have: ¬ ∃j,j<i∧m.getLsbD j=true:=fun ⟨j,a,b⟩=>by rw [h3 j a] at b;cases b
  rw [h1,decide_eq_false this];simp [hi]
 ·have: ∃j,j<i∧m.getLsbD j=true:=⟨p,q,h1⟩
  have e:i - p≠0:=by omega
  simp [this,hi,e]
theorem FI {m:BitVec 32} {p:Nat} {r:List Nat} (h:ai m=p :: r):ai (m &&& (m - 1#32))=r:=by
 obtain ⟨h1,h2,h3,h4⟩:=mO h;have hr:=lT m;rw [h,List.pairwise_cons] at hr
 have key: ∀j,(m &&& (m - 1#32)).getLsbD j=true↔j∈r:=fun j=>by
  rw [h4, <- BitVec.not_neg,UZ,BitVec.getLsbD_not,U0]
  rcases Nat.lt_or_ge p j with q|q
  ·have: ∃k,k<j∧m.getLsbD k=true:=⟨p,q,h1⟩
   by_cases hj:m.getLsbD j=true
   ·have:=UX hj
    simp_all
   ·simp_all
  ·by_cases hj:m.getLsbD j=true
   ·have e:j=p:=by
     rcases Nat.lt_or_ge j p with a|a
     ·rw [h3 j a] at hj;cases hj
     ·omega
    subst e
    have: ¬ ∃k,k<j∧m.getLsbD k=true:=fun ⟨k,a,b⟩=>by rw [h3 k a] at b;cases b
    rw [h1,decide_eq_false this];simp [h2]
   ·simp_all
 exact xN (lT _) hr.2 (fun j=>aK.trans (key j))
def ay (m:BitVec 32):AV:= .v (.int .u32 m.toNat)
def ya:List Int:=[0,1,28,2,29,14,24,3,30,22,20,15,25,17,4,8,31,27,13,23,21,19,16,7,26,12,18,6,11,5,10,9]
theorem LG: ∀p:Nat,p<32->ya[((1#32 <<< p * 125613361#32) >>> 27).toNat]? = some (p:Int):=by decide
theorem KW (s:AS):s.ev (.global 0) = .vp (ya.map fun i=> .v (.int .u8 i)):=rfl
theorem Iv {l:List Int} {f:Int->AV} {n:Nat} {x:Int} (e:l[n]? = some x): ∃r,(l.map f).drop n=f x :: r:=by
 obtain ⟨h1,h2⟩:=S7.1 e;exact ⟨_,by rw [US (by simpa using h1),List.getElem_map,h2]⟩
theorem GP {p:Nat} (hp:p<32): ∃n r,((1#32 <<< p * 125613361#32) >>> 27).toNat=n∧n<32∧(ya.map fun i=>AV.v (.int .u8 i)).drop n = .v (.int .u8 p) :: r:=by
 have e:=LG p hp;generalize ((1#32 <<< p * 125613361#32) >>> 27).toNat=n at *;obtain ⟨r,h⟩:=Iv (f:=fun i=>AV.v (.int .u8 i)) e;exact ⟨n,r,rfl,(S7.1 e).1,h⟩
theorem LL {m:BitVec 32} {p:Nat} {r:List Nat} (h:ai m=p :: r): ∃(M N1 N2 N3:Int) (n:Nat) (r':List AV),(m.toNat:Int)=M∧(M==0)=false∧IntKind.u32.wrap (0 - M)=N1∧Fh .u32 M N1=N2∧IntKind.u32.wrap (N2 * 125613361)=N3 ∧
  N3.fdiv (2 ^ min 27 32)=n∧n<32∧(ya.map fun i=>AV.v (.int .u8 i)).drop (n * 1) = .v (.int .u8 p) :: r':=by
 have hp:=(mO h).2.1
 have hm:m≠0#32:=fun e=>by rw [e,jj] at h;cases h
 obtain ⟨n,r',eN,hn,eI⟩:=GP hp;refine ⟨_,_,_,_,n,r',rfl,by rw [FO];exact beq_eq_false_iff_ne.2 hm,rfl,rfl,rfl, ?_,hn,by rw [Nat.mul_one];exact eI⟩;rw [I4,uV,IX h,I3,I8,eN]
theorem QZ {m:BitVec 32} {p:Nat} {r:List Nat} (h:ai m=p :: r):af Tryz.prog 214 [ay m] (.v (.int .i64 p)):=by
 have hp:=(mO h).2.1;obtain ⟨M,N1,N2,N3,n,r',e0,z1,e1,e2,e3,e4,hn,eI⟩:=LL h;simp only [ay,e0]
 (refine af.enter Tryz.func214 rfl (by kernel_rfl) (by kernel_rfl) rfl (by first|rfl|(simp only [go_sem,UM,Um,Us])) (by first|rfl|(simp only [go_sem,UM,Um,Us])) ?_;simp only [Tryz.ntmps214,Tryz.results214,Tc,S6,Nat.reduceAdd,Nat.reduceSub,UN,UO,UP,UQ])
 repeat (first|(with_reducible first|refine ag.up ?_|refine fun (K:AK) hK=> ?_|(refine hK _ ?_;clear hK K))|simp only [go_sem,z1,e1,e2,e3,e4,KW,eI]|with_reducible refine wA ?_|clear hK K)
 have eW:IntKind.i64.wrap (p:Int)=p:=dQ (by omega) (by omega)
 repeat (first|(with_reducible first|refine ag.up ?_|refine fun (K:AK) hK=> ?_|(refine hK _ ?_;clear hK K))|simp only [go_sem,eW]|with_reducible refine wA ?_|clear hK K)
def lV (m:BitVec 32):aa:=⟨185,1,false,[[ay m]]⟩
theorem Co (p:Nat) (l:List Nat):aM (p :: l)=[.v (.int .i64 p)] :: aM l:=rfl
theorem Hz (m:BitVec 32):nz Tryz.prog 213 [.ptr 0 0 1 0 0] [some (lV m)] (aM (ai m)):=by
 simp only [lV,ay]
 (refine nz.enter Tryz.func213 rfl (by kernel_rfl) (by kernel_rfl) rfl (fun l=> ?_);simp only [Tryz.ntmps213,Tryz.results213,Tc,S6,Nat.reduceAdd,Nat.reduceSub,UN,UO,UP,UQ])
 repeat (first|(with_reducible first|refine ag.up ?_|refine fun (K:AK) hK=> ?_|(refine hK _ ?_;clear hK K))|simp only [go_sem]|clear hK K)
 refine nI (ι:=BitVec 32) 3 (fun i=>[]) (fun i=>[some (lV i)]) (fun i=> .run l (aM (ai i))) (fun i=>(ai i).length) (fun _=>True) m trivial ?_ ?_
 ·simp only [lV,ay]
  (refine aq ?_ ?_ ?_<;>simp only [aG,UG,UH,UN,UO,bd,bj,AV.v.injEq,Value.int.injEq,Value.bool.injEq,Value.string.injEq,AV.vec.injEq,AV.ptr.injEq,true_or,or_true,false_or,or_false,aa.mk.injEq,forall_eq_apply_imp_iff,forall_eq,forall_eq',go_sem])
 ·rintro i hi K hK;simp only [lV,ay]
  repeat (first|(with_reducible first|refine ag.up ?_|refine fun (K:AK) hK=> ?_|(refine hK _ ?_;clear hK K))|simp only [go_sem,I6]|clear hK K)
  refine fU.part (fun h=> ?_) (fun h=> ?_)
  ·cases hb:ai i with
   | nil=>rw [nJ hb] at h;simp at h
   | cons p r=>
    have C:=QZ hb;have eY:=Co p r;have hR:=FI hb;simp only [ay] at C
    repeat (first|(with_reducible first|refine ag.up ?_|refine fun (K:AK) hK=> ?_|(refine hK _ ?_;clear hK K))|simp only [go_sem]|clear hK K)
    refine ab.one C ?_
    repeat' (first|(with_reducible first|refine ag.up ?_|refine fun (K:AK) hK=> ?_|(refine hK _ ?_;clear hK K))|simp only [go_sem,eY,Bd,uV]|clear hK K|(with_reducible refine ab.one (by assumption) ?_)|(with_reducible refine bt.one (by assumption) ?_)|(refine fU.part (fun hb=> ?_) (fun hb=> ?_)<;>simp only [hb,go_sem,eY,Bd,uV])|(refine fU.part (fun hb=> ?_) (fun hb=> ?_))|(with_reducible refine jI.mk ?_ ?_))
    ·refine aP.mk (i &&& (i - 1#32)) trivial ?_ ?_
     ·rw [hR,hb];simp
     ·rw [hR];simp only [lV,ay];(refine aq ?_ ?_ ?_<;>simp only [aG,UG,UH,UN,UO,bd,bj,AV.v.injEq,Value.int.injEq,Value.bool.injEq,Value.string.injEq,AV.vec.injEq,AV.ptr.injEq,true_or,or_true,false_or,or_false,aa.mk.injEq,forall_eq_apply_imp_iff,forall_eq,forall_eq',go_sem])
    ·exact .inr trivial
  ·have e1:i=0#32:=by simpa using h
   subst e1;simp only [jj,aM,List.map_nil]
   repeat (first|(with_reducible first|refine ag.up ?_|refine fun (K:AK) hK=> ?_|(refine hK _ ?_;clear hK K))|simp only [go_sem]|clear hK K)
   exact .inl trivial
theorem nf (m:BitVec 32):aR Tryz.prog 188 [ay m] [] (.fn 213 [] [.ptr 0 0 1 0 0]) [some (lV m)]:=by
 simp only [lV,ay]
 (refine aR.enter Tryz.func188 rfl (by kernel_rfl) (by kernel_rfl) rfl ?_;simp only [Tryz.ntmps188,Tryz.results188,Tc,S6,Nat.reduceAdd,Nat.reduceSub,UN,UO,UP,UQ])
 repeat (first|(with_reducible first|refine ag.up ?_|refine fun (K:AK) hK=> ?_|(refine hK _ ?_;clear hK K))|simp only [go_sem]|with_reducible refine wA ?_|clear hK K)
 (refine ⟨?_, ?_, ?_⟩<;>simp only [bd,bj,AV.v.injEq,Value.int.injEq,Value.bool.injEq,Value.string.injEq,AV.vec.injEq,AV.ptr.injEq,true_or,or_true,false_or,or_false,aa.mk.injEq,forall_eq_apply_imp_iff,forall_eq,forall_eq',go_sem])
section
open Go.ChangeShapes Go.WideShapes Go.ChangeAt Go.RowKit
theorem FJ {P:Program} {w:World} {n:String} {d:DataW Unit}: ∀(laid:List (String×DataW Unit)) (ps:List MemPlace),DataW.LaidVars P w laid ps->(n,d)∈laid ->
  ∃g t cs fuel p,P.globalNamed n=some g∧(P.globals[g]?).map (·.type)=some t∧w.var? P n=some cs∧DataW.trod (fun _=>()) P w 0 (fun _=>true) false fuel t cs.toList=some (d,p)∧ ∀m∈MemPlace.row ⟨g,0,none⟩ cs.size,m∈ps
 | [],ps,h,hm=>by cases hm
 | (n',d') :: r,ps,h,hm=>by
  obtain ⟨g,t,cs,fuel,p,q,h1,h2,h3,h4,h5,rfl⟩:=h
  rcases List.mem_cons.1 hm with e|hm
  ·cases e;exact ⟨g,t,cs,fuel,p,h1,h2,h3,h4,fun m hm=>U1 _ (U1 _ hm)⟩
  ·obtain ⟨g',t',cs',fuel',p',k1,k2,k3,k4,k5⟩:=FJ r q h5 hm;exact ⟨g',t',cs',fuel',p',k1,k2,k3,k4,fun m hm=>List.mem_append_right _ (k5 m hm)⟩
theorem yb {P:Program} {w:World} {n:String} {laid:List (String×DataW Unit)} {d:DataW Unit} {g:Nat} {T E:TypeId} {k:IntKind} {N:Nat} (vals:List Int) (hm:(n,d)∈laid) (hd:d = .agg (vals.map fun i=> .lit (.int k i))) (hG:P.globalNamed n=some g) (hT:(P.globals[g]?).map (·.type)=some T) (uT:P.underlying T=some (.array N E)) (uE:P.underlying E=some (.int k))
  (cE:P.cellsOf E=1) (cT:P.cellsOf T=N) (hN:0<N) (hv:vals.length=N) (h:laidMet P laid w): ∃t,w.heap[g]? = some (.cells (vals.map (fun i=>Value.int k i)).toArray t (0,0)):=by
 obtain ⟨ps,hl,hnd,hc⟩:=h;obtain ⟨g0,t0,cs0,f0,p0,hg0,ht0,hv0,hd0,hps⟩:=FJ _ _ hl hm;obtain rfl:=SX (hG.symm.trans hg0);obtain rfl:=SX (hT.symm.trans ht0);rw [hd] at hd0;obtain ⟨xs,m,rfl,hx,hlen,hn,hel⟩:=DataW.trod_array uT hd0
 have hxs:xs.map (·.1)=vals.map fun i=>(DataW.lit (.int k i):DataW Unit):=by
  simp only [Prod.mk.injEq,DataW.agg.injEq] at hx;exact hx.1.symm
 rw [cT] at hlen;rw [cE] at hel
 have hcs:cs0.toList=vals.map (fun i=>Value.int k i):=by
  refine List.ext_getElem (by rw [hlen,List.length_map,hv]) fun i h1 h2=> ?_
  have hi:i<N:=by omega
  have e1:=hel i hi;rw [Nat.mul_one,List.drop_eq_getElem_cons h1,List.take_succ_cons,List.take_zero] at e1
  have hix:i<xs.length:=by omega
  rw [Tn hix] at e1;obtain ⟨n,k1,k2,_⟩:=DataW.trod_int uE e1
  have e2:(xs.map (·.1))[i]? = (vals.map fun i=>(DataW.lit (.int k i):DataW Unit))[i]? :=by rw [hxs]
  have hit:i<vals.length:=by omega
  rw [List.getElem?_map,List.getElem?_map,Tn hix,Tn hit,k2] at e2;simp only [Option.map_some,Ti,DataW.lit.injEq,Lit.int.injEq,true_and] at e2;rw [List.getElem_map, <- e2];exact (List.cons.inj k1).1
 obtain ⟨⟨c,t,hb⟩,_⟩:=hc g 0 (hps _ (by
  rw [MemPlace.row,List.mem_map];refine ⟨0, ?_,rfl⟩
  rw [List.mem_range, <- Array.length_toList,hlen];exact hN))
 simp only [World.var?,hG,Option.bind_some,hb,Ti] at hv0;refine ⟨t, ?_⟩;rw [hb,hv0, <- hcs,Array.toArray_toList]
def Oo:List Int:=[1,10,100,1000,10000,100000,1000000,10000000,100000000,1000000000,10000000000,100000000000,1000000000000,10000000000000,100000000000000,1000000000000000,10000000000000000,100000000000000000,1000000000000000000,10000000000000000000]
theorem Cv {w:World} (h:laidMetH Tryz.prog [("math/bits.deBruijn32tab", Rows.laid_math_bits_deBruijn32tab),("math/bits.deBruijn64tab", Rows.laid_math_bits_deBruijn64tab),("internal/strconv.uint64pow10", Rows.laid_internal_strconv_uint64pow10)] w):dC (fun _=>True) (fun _ _=>Go.undef) [] w:=by
 rw [MakeChecks.laidMetH_plain _ _ _ (by kernel_rfl)] at h
 have h1:=yb (P:=Tryz.prog) (g:=0) (T:=301) (E:=5) (k:= .u8) (N:=32) (n:= "math/bits.deBruijn32tab") ya (List.mem_cons_self) rfl (by kernel_rfl) (by kernel_rfl) (by kernel_rfl) (by kernel_rfl) (by kernel_rfl) (by kernel_rfl) (by decide) rfl h
 have h2:=yb (P:=Tryz.prog) (g:=1) (T:=311) (E:=256) (k:= .u64) (N:=20) (n:= "internal/strconv.uint64pow10") Oo (T8 _ (T8 _ List.mem_cons_self)) rfl (by kernel_rfl) (by kernel_rfl) (by kernel_rfl) (by kernel_rfl) (by kernel_rfl) (by kernel_rfl) (by decide) rfl h
 intro g T cs hg;unfold sR at hg;refine ⟨?_,qW _ _,trivial⟩
 split at hg
 ·rename_i e;obtain ⟨-, rfl⟩:=Prod.mk.inj (SX hg);subst e;exact h1
 ·split at hg
  ·rename_i e;obtain ⟨-, rfl⟩:=Prod.mk.inj (SX hg);subst e;exact h2
  ·cases hg
abbrev de:=Int×Int
def dx (a b:de):Bool:=decide (a.1<b.1)||(decide (a.1=b.1)&&decide (a.2<b.2))
def ax (l:List de) (i:Nat):de:=l.getD i (0,0)
theorem gJ {a b:de}:dx a b=true↔a.1<b.1∨a.1=b.1∧a.2<b.2:=by simp [dx]
theorem jq {a b c:de} (h:dx b a=false) (k:dx c b=false):dx c a=false:=by
 rw [<-U2,gJ] at *; omega
theorem dn {a b:de} (h:dx a b=true):dx b a=false:=by
 rw [<-U2,gJ];rw [gJ] at h;omega
theorem fN (a:de):dx a a=false:=by
 rw [<-U2,gJ];omega
def swp (l:List de) (i j:Nat):List de:=(l.set i (ax l j)).set j (ax l i)
theorem ff (l:List de) (i j:Nat):(swp l i j).length=l.length:=by simp [swp]
theorem ko {l:List de} {i:Nat} (h:i<l.length):ax l i=l[i]:=by simp [ax,h]
theorem xX {l:List de} {i j:Nat} (hi:i<l.length) (hj:j<l.length):(swp l i j).Perm l:=by
 rw [swp,ko hi,ko hj];exact List.set_set_perm hi hj
theorem kF {l:List de} {i j k:Nat} (hi:i<l.length) (hj:j<l.length):ax (swp l i j) k=if k=j then ax l i else if k=i then ax l j else ax l k:=by
 simp only [ax,swp,T3,List.getElem?_set,List.length_set]
 by_cases h1:j=k
 ·subst h1;simp [hj]
 ·by_cases h2:i=k
  ·subst h2;simp [h1,hi,Ne.symm h1]
  ·simp [h1,h2,Ne.symm h1,Ne.symm h2]
def jc (l:List de):Prop:= ∀i,0<i->i<l.length->dx (ax l i) (ax l ((i - 1) / 2))=false
def kE:Nat->List de->Nat->List de
 | 0,l,_=>l
 | n+1,l,k=>if k=0 then l else if dx (ax l k) (ax l ((k - 1) / 2)) then kE n (swp l k ((k - 1) / 2)) ((k - 1) / 2) else l
theorem me: ∀(n:Nat) (l:List de) (k:Nat),k<l.length->(kE n l k).Perm l
 | 0,l,k,_=> .refl _
 | n+1,l,k,h=>by
  rw [kE]
  split
  ·exact .refl _
  ·split
   ·exact (me n _ _ (by rw [ff];omega)).trans (xX h (by omega))
   ·exact .refl _
structure KE (l:List de) (k:Nat):Prop where
 lt:k<l.length
 all: ∀i,0<i->i<l.length->i≠k->dx (ax l i) (ax l ((i - 1) / 2))=false
 up: ∀i,0<i->i<l.length->(i - 1) / 2=k->0<k->dx (ax l i) (ax l ((k - 1) / 2))=false
theorem xM: ∀(n:Nat) (l:List de) (k:Nat),k<=n->KE l k->jc (kE n l k)
 | 0,l,k,hn,h=>by
  obtain rfl:k=0:=by omega
  exact fun i h0 hi=>h.all i h0 hi (by omega)
 | n+1,l,k,hn,h=>by
  rw [kE]
  split
  ·rename_i hk;exact fun i h0 hi=>h.all i h0 hi (by omega)
  ·rename_i hk;have hl:=h.lt
   have hp:(k - 1) / 2<l.length:=by omega
   split
   ·rename_i hlt
    refine xM n _ _ (by omega) ⟨by rw [ff];exact hp,fun i h0 hi hne=> ?_,fun i h0 hi he hk0=> ?_⟩
    ·rw [ff] at hi;rw [kF hl hp,kF hl hp,if_neg hne]
     by_cases hik:i=k
     ·subst hik;rw [if_pos rfl,if_pos rfl];exact dn hlt
     ·rw [if_neg hik]
      by_cases h1:(i - 1) / 2=(k - 1) / 2
      ·rw [if_pos h1];have h2:=h.all i h0 hi hik;rw [h1] at h2;exact jq (dn hlt) h2
      ·rw [if_neg h1]
       by_cases h2:(i - 1) / 2=k
       ·rw [if_pos h2];exact h.up i h0 hi h2 (by omega)
       ·rw [if_neg h2];exact h.all i h0 hi hik
    ·rw [ff] at hi;have hq:=h.all ((k - 1) / 2) hk0 hp (by omega);rw [kF hl hp,kF hl hp,if_neg (by omega),if_neg (show ¬((k - 1) / 2 - 1) / 2=(k - 1) / 2 by omega),if_neg (show ¬((k - 1) / 2 - 1) / 2=k by omega)]
     by_cases hik:i=k
     ·rw [if_pos hik];exact hq
     ·rw [if_neg hik];have h2:=h.all i h0 hi hik;rw [he] at h2;exact jq hq h2
   ·rename_i hlt;intro i h0 hi
    by_cases hik:i=k
    ·subst hik;simpa using hlt
    ·exact h.all i h0 hi hik
def iP (l:List de) (x:de):List de:=kE l.length (l++[x]) l.length
theorem xa {l m:List de} {i:Nat} (h:i<l.length):ax (l++m) i=ax l i:=by
 simp [ax,List.getElem?_append_left h]
theorem fA (l:List de) (x:de):(iP l x).Perm (l++[x]):=me _ _ _ (by simp)
theorem Gc {l:List de} {x:de} (h:jc l):jc (iP l x):=by
 refine xM _ _ _ (Nat.le_refl _) ⟨by simp,fun i h0 hi hne=> ?_,fun i h0 hi he hk=> ?_⟩
 ·simp only [List.length_append,Tc,List.length_nil] at hi;rw [xa (by omega),xa (by omega)];exact h i h0 (by omega)
 ·simp only [List.length_append,Tc,List.length_nil] at hi;omega
def cD (l:List de) (k:Nat):Nat:=
 let a:=if 2 * k+1<l.length∧dx (ax l (2 * k+1)) (ax l k)=true then 2 * k+1 else k
 if 2 * k+2<l.length∧dx (ax l (2 * k+2)) (ax l a)=true then 2 * k+2 else a
theorem kq (l:List de) (k:Nat) (hk:k<l.length):(cD l k=k∨cD l k=2 * k+1∨cD l k=2 * k+2)∧cD l k<l.length∧dx (ax l k) (ax l (cD l k))=false∧(cD l k≠k->dx (ax l (cD l k)) (ax l k)=true) ∧
  (∀i,0<i->i<l.length->(i - 1) / 2=k->dx (ax l i) (ax l (cD l k))=false):=by
 have key: ∀i,0<i->(i - 1) / 2=k->i=2 * k+1∨i=2 * k+2:=fun i h0 h=>by omega
 unfold cD
 by_cases h1:2 * k+1<l.length∧dx (ax l (2 * k+1)) (ax l k)=true
 ·simp only [if_pos h1]
  by_cases h2:2 * k+2<l.length∧dx (ax l (2 * k+2)) (ax l (2 * k+1))=true
  ·rw [if_pos h2];have h3:=dn h2.2;have h4:=dn h1.2
   have h5:dx (ax l (2 * k+2)) (ax l k)=true:=by
    have a:=h1.2;have b:=h2.2;rw [gJ] at *; omega
   refine ⟨.inr (.inr rfl),h2.1,dn h5,fun _=>h5,fun i h0 hi he=> ?_⟩
   rcases key i h0 he with rfl|rfl
   ·exact h3
   ·exact fN _
  ·rw [if_neg h2];refine ⟨.inr (.inl rfl),h1.1,dn h1.2,fun _=>h1.2,fun i h0 hi he=> ?_⟩
   rcases key i h0 he with rfl|rfl
   ·exact fN _
   ·rw [not_and] at h2;simpa using h2 hi
 ·simp only [if_neg h1]
  by_cases h2:2 * k+2<l.length∧dx (ax l (2 * k+2)) (ax l k)=true
  ·rw [if_pos h2];refine ⟨.inr (.inr rfl),h2.1,dn h2.2,fun _=>h2.2,fun i h0 hi he=> ?_⟩
   rcases key i h0 he with rfl|rfl
   ·rw [not_and] at h1
    have h3:dx (ax l (2 * k+1)) (ax l k)=false:=by simpa using h1 hi
    exact jq (dn h2.2) h3
   ·exact fN _
  ·rw [if_neg h2];refine ⟨.inl rfl,hk,fN _,fun h=>absurd rfl h,fun i h0 hi he=> ?_⟩
   rcases key i h0 he with rfl|rfl
   ·rw [not_and] at h1;simpa using h1 hi
   ·rw [not_and] at h2;simpa using h2 hi
def iQ:Nat->List de->Nat->List de
 | 0,l,_=>l
 | n+1,l,k=>if cD l k=k then l else iQ n (swp l k (cD l k)) (cD l k)
theorem mg: ∀(n:Nat) (l:List de) (k:Nat),k<l.length->(iQ n l k).Perm l
 | 0,l,k,_=> .refl _
 | n+1,l,k,h=>by
  rw [iQ];have hs:=kq l k h
  split
  ·exact .refl _
  ·exact (mg n _ _ (by rw [ff];exact hs.2.1)).trans (xX h hs.2.1)
structure KF (l:List de) (k:Nat):Prop where
 lt:k<l.length
 all: ∀i,0<i->i<l.length->(i - 1) / 2≠k->dx (ax l i) (ax l ((i - 1) / 2))=false
 up: ∀i,0<i->i<l.length->(i - 1) / 2=k->0<k->dx (ax l i) (ax l ((k - 1) / 2))=false
theorem xS: ∀(n:Nat) (l:List de) (k:Nat),l.length<=n+k->KF l k->jc (iQ n l k)
 | 0,l,k,hn,h=>by have:=h.lt;omega
 | n+1,l,k,hn,h=>by
  rw [iQ];have hl:=h.lt;obtain ⟨s1,s2,s3,s4,s5⟩:=kq l k hl
  split
  ·rename_i he;intro i h0 hi
   by_cases hp:(i - 1) / 2=k
   ·have:=s5 i h0 hi hp
    rw [he] at this;rw [hp];exact this
   ·exact h.all i h0 hi hp
  ·rename_i hne;have s4:=s4 hne;generalize cD l k=m at s1 s2 s3 s4 s5 hne ⊢
   refine xS n _ _ (by rw [ff];omega) ⟨by rw [ff];exact s2,fun i h0 hi hp=> ?_,fun i h0 hi he hm0=> ?_⟩
   ·rw [ff] at hi;rw [kF hl s2,kF hl s2,if_neg hp]
    by_cases him:i=m
    ·have hpk:(i - 1) / 2=k:=by omega
     rw [if_pos him,if_pos hpk];exact s3
    ·rw [if_neg him]
     by_cases hik:i=k
     ·rw [if_pos hik]
      have hpk:(i - 1) / 2≠k:=by omega
      rw [if_neg hpk];have hu:=h.up m (by omega) s2 (by omega) (by omega);rw [hik];exact hu
     ·rw [if_neg hik]
      by_cases hpk:(i - 1) / 2=k
      ·rw [if_pos hpk];exact s5 i h0 hi hpk
      ·rw [if_neg hpk];exact h.all i h0 hi hpk
   ·rw [ff] at hi;rw [kF hl s2,kF hl s2,if_neg (show ¬i=m by omega),if_neg (show ¬i=k by omega)]
    have hmk:(m - 1) / 2=k:=by omega
    rw [hmk,if_neg (show ¬k=m by omega),if_pos rfl]
    have:=h.all i h0 hi (by omega)
    rwa [he] at this
def jS (l:List de):List de:=iQ (l.length - 1) ((l.set 0 (ax l (l.length - 1))).take (l.length - 1)) 0
theorem sW {l:List de} {n i:Nat} (h:i<n):ax (l.take n) i=ax l i:=by
 simp [ax,T3,List.getElem?_take,h]
theorem xb {l:List de} {x:de} {i j:Nat} (h:i≠j):ax (l.set i x) j=ax l j:=by
 simp [ax,T3,List.getElem?_set_ne h]
theorem xA {l:List de} (h:l.length=1):jS l=[]:=by
 obtain ⟨a,rfl⟩:=List.length_eq_one_iff.1 h;simp [jS,iQ,cD]
theorem tn {l:List de} (h:l≠[]):(ax l 0 :: jS l).Perm l:=by
 cases l with
 | nil=>exact absurd rfl h
 | cons a l=>
  by_cases hl:l=[]
  ·subst hl;rw [xA rfl];exact .refl _
  ·have e:((a :: l).set 0 (ax (a :: l) ((a :: l).length - 1))).take ((a :: l).length - 1)=l.getLast hl :: l.dropLast:=by
    have hp:0<l.length:=List.length_pos_iff.2 hl
    have e1:ax (a :: l) ((a :: l).length - 1)=l.getLast hl:=by
     rw [ko (by simp),List.getLast_eq_getElem];simp only [Tc,Nat.add_one_sub_one];rw [List.getElem_cons,dif_neg (by omega)]
    rw [e1,List.set_cons_zero];obtain ⟨m,hm⟩: ∃m,l.length=m+1:=⟨l.length - 1,by omega⟩;simp only [Tc,Nat.add_one_sub_one];rw [hm,List.take_succ_cons,List.dropLast_eq_take,hm];rfl
   rw [jS,e];have e2:ax (a :: l) 0=a:=rfl;rw [e2];refine .cons a ((mg _ _ 0 (by simp)).trans ?_)
   have:=List.dropLast_concat_getLast hl
   conv=>rhs;rw [<-this]
   exact (List.perm_append_comm (l₁:=l.dropLast) (l₂:=[l.getLast hl])).symm
theorem Bl {l:List de} (h:jc l):jc (jS l):=by
 by_cases hl:l.length<=1
 ·have:jS l=[]:=by
   rcases Nat.lt_or_ge l.length 1 with q|q
   ·have:l=[]:=List.length_eq_zero_iff.1 (by omega)
    subst this;rfl
   ·exact xA (by omega)
  rw [this];exact fun i _ h=>by simp at h
 ·have e:((l.set 0 (ax l (l.length - 1))).take (l.length - 1)).length=l.length - 1:=by simp
  refine xS _ _ 0 (by rw [e];omega) ⟨by rw [e];omega,fun i h0 hi hp=> ?_,fun i h0 hi he hk=>by omega⟩;rw [e] at hi;rw [sW hi,sW (by omega),xb (by omega),xb (by omega)];exact h i h0 (by omega)
theorem ri {l:List de} (h:l≠[]):(jS l).length+1=l.length:=by
 have:=(tn h).length_eq
 simpa using this
theorem zw {l:List de} (h:jc l): ∀i,i<l.length->dx (ax l i) (ax l 0)=false:=by
 intro i
 induction i using Nat.strongRecOn with
 | _ i ih=>
  intro hi
  by_cases h0:i=0
  ·subst h0;exact fN _
  ·exact jq (ih ((i - 1) / 2) (by omega) (by omega)) (h i (by omega) hi)
theorem zy {l:List de} (h:jc l) {x:de} (hx:x∈l):dx x (ax l 0)=false:=by
 obtain ⟨i,hi,rfl⟩:=List.getElem_of_mem hx
 have:=zw h i hi
 rwa [ko hi] at this
end
end Go.Proofs.YtlhhccmopfamhaaGreatDoor
