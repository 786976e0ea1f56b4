/- expr.walk, expr.parts: an iterator over an expression's parts. -/
import Derived.Test.YtldnlbcibmmbbaaGreatProg
import Derived.Test.YtldnlbcibmmbbaaGreatWRange
import Derived.Test.YtldnlbcibmmbbaaGreatWValue
set_option linter.unusedSimpArgs false
set_option linter.unusedVariables false
open Array renaming replicate_succ → KD, replicate_zero → KE
open List renaming size_toArray → Jo, length_cons → I5, length_nil → IZ, push_toArray → KF, append_toArray → KG, nil_append → Kr, cons_append → Kq, getElem?_toArray → Jg, getElem?_cons_succ → KH, getElem?_cons_zero → Kd, zip_cons_cons → KI, zip_nil_left → KJ, foldl_cons → Ks, foldl_nil → Kt, setIfInBounds_toArray → KK, set_cons_succ → KL, set_cons_zero → KM
open Nat renaming le_trans → IW, le_refl → IV
namespace Go.Proofs.YtldnlbcibmmbbaaGreat
open Go.RowKit Go.Shelf
attribute [local go_sem] Oper.semAt_some
def IA (J Jx:List XC→World→Prop) (Kp:World→World→Prop) (pre:List XC) (xs:List Ex) (W:World) (e:Ending) (W':World):Prop:=
 (e = .returned (.bool true)∧(∃L,L.map XC.sig=xs.map Ex.sig∧J (pre++L) W')∧Kp W W') ∨
 (e = .returned (.bool false)∧ ∃q,q.map XC.sig <+: xs.map Ex.sig∧Jx (pre++q) W')
def FB (F:Fence) (l N lo hi:Nat) (et:TypeId) (J Jx:List XC→World→Prop) (w0:World) (x:Ex):Prop:=
 ∀(n:Nat) (cx:List Value) (pre:List XC) (W:World),cf w0 x cx→x.ok→Cells w0 W→hi≤W.heap.size→J pre W→pre.length+(ak x).length≤N →
  CallsIn F n Tryz.prog 118 #[.agg cx.toArray, .func (.yield l) #[] #[]] W (IA J Jx (Kept lo hi et) pre (ak x) W)
set_option maxRecDepth 100000 in
set_option maxHeartbeats 4000000 in
theorem yq (F:Fence) (hF: ∀f,F.fn f) (hd:F.depth=none) (hro:F.round=none) (l N lo hi:Nat) (et:TypeId) (het:43≠et) (J Jx:List XC→World→Prop) (w0:World) (hlo:w0.heap.size≤lo)
  (hJ: ∀pre W o,J pre W→J pre (W.alloc o))
  (hY: ∀m pre (c:XC) W,J pre W→pre.length<N→YieldAt F m Tryz.prog l #[c.val] W (Hj J Jx (Kept lo hi et) pre c W)) (x:Ex):FB F l N lo hi et J Jx w0 x:=by
 induction x using Ex.ind with
 | h k s kids ih=>
  intro n cx pre W hx hok hb hhi hj hN
  rw [cf] at hx
  obtain ⟨sv,rfl,hr⟩:=hx
  obtain ⟨p,c,rfl,hc1,hc2⟩:=hr.shape
  rw [Ex.ok] at hok
  obtain ⟨hs,hoks⟩:=hok
  replace hs:=hs.len
  rw [ak] at hN ⊢
  have hdd: ∀k:Nat,(F.depth.isSome=true→1≤k):=fun k h=>by rw [hd] at h;cases h
  obtain ⟨xc,hxv,hxs⟩: ∃xc:XC,xc.val = .agg #[.int .i64 k, .string s, .slice p kids.length c]∧xc.sig=(k,s,kids.length):=⟨⟨k,s,p,kids.length,c,hs,by omega⟩,rfl,rfl⟩
  have hy1:=hY (n - 1) pre xc (W.alloc (.cells #[.int .i64 k, .string s, .slice p kids.length c] 43)) (hJ _ _ _ hj) (by simp at hN;omega)
  obtain ⟨fn,tmps,assign,body,hy,hR⟩:=hy1
  rw [hxv] at hy
  have HR:=Lib.hid hR
  clear hR
  have HX:=Lib.hid ih;have HO:=Lib.hid (mb.1 hoks);have HRd:=Lib.hid hr;have HBl:=Lib.hid hb;have HNN:=Lib.hid hN;have HJ:=Lib.hid hJ;have HXS:=Lib.hid hxs
  have HW:Hid (W.heap.size<(W.alloc (.cells #[.int .i64 k, .string s, .slice p kids.length c] 43)).heap.size):=by show _<_;simp
  have HB:Hid ((W.alloc (.cells #[.int .i64 k, .string s, .slice p kids.length c] 43)).heap[W.heap.size]? = some (.cells #[.int .i64 k, .string s, .slice p kids.length c] 43)):=by show _=_;exact aX _ _
  clear ih hoks hr hb hN hj hs hY hJ hxv hxs
  unfold maxLen at hc2
  refine callsIn_of_wp Tryz.func118 rfl (hF _) ?_ hro
  simp only [Tryz.ntmps118,Jo,I5,IZ,Nat.reduceAdd,Nat.reduceSub,KD,KE,KF,KG,Kr,Kq]
  gi_wp2_with fail
  refine HR.out.mono ?_
  rintro e W2 (⟨rfl,hJ2,hk2⟩|⟨rfl,hx2⟩)
  ·have hbox:=hk2.box hhi het HB.out
   have hk1:Kept lo hi et W W2:=(Kept.alloc W _).trans hk2
   have hce:=ag hbox 2
   have HH:=Lib.hid hbox;have HK:=Lib.hid hk1;have HJ2:=Lib.hid hJ2
   clear hbox hk1 hk2 hJ2
   simp only [Jg,KH,Kd] at hce
   gi_wp2_with fail
   gi_loopw [4,14] (fun r i wr=>r = .bool false∧ ∃k:Nat,i = .int .i64 k∧k≤kids.length∧Kept lo hi et W wr∧ ∃L,L.map XC.sig=((bN (kids.take k))).map Ex.sig∧J (pre++[xc]++L) wr) (fun _ i _=>kids.length - (intOf i).toNat)
   case atStart=>exact ⟨rfl,0,rfl,Nat.zero_le _,HK.out,[],rfl,by simpa using HJ2.out⟩
   case round=>
    obtain ⟨rfl,i,rfl,hik,hkw,L,hL,hJL⟩:=hrel
    have HKW:=Lib.hid hkw;have HL:=Lib.hid hL;have HJL:=Lib.hid hJL
    have hlen:L.length=(bN (kids.take i)).length:=by have:=congrArg List.length hL;simpa using this
    clear hkw hL hJL
    by_cases hlt:i<kids.length
    ·have hcw:=HKW.out.cells HBl.out hlo
     obtain ⟨b1,o1,k1,s1,l1,v1,rfl,hx1,hr1,a0,a1,a2⟩:=HRd.out.at hlt
     obtain ⟨p1,c1,rfl, -, -⟩:=hr1.shape
     replace a0:=hcw _ _ _ a0
     replace a1:=hcw _ _ _ a1
     replace a2:=hcw _ _ _ a2
     have hq1:=cr a0
     have hmem:kids[i]∈kids:=List.getElem_mem _
     have hrx:cf w0 kids[i] [.int .i64 k1, .string s1, .slice p1 l1.length c1]:=by rw [hx1,cf];exact ⟨_,rfl,hr1⟩
     have hpp:=kR hlt
     have hbd:(pre++[xc]++L).length+(ak kids[i]).length≤N:=by
      have h1:=HNN.out
      have h2:=l9 kids (i+1)
      rw [hpp] at h2
      simp at h1 h2 ⊢
      omega
     have HH1:=Lib.hid (fun m W' hcc hh hj=>HX.out kids[i] hmem m _ (pre++[xc]++L) W' hrx (HO.out _ hmem) hcc hh hj hbd)
     have HCW:=Lib.hid hcw;have HPP:=Lib.hid hpp
     have hhw:=IW hhi HKW.out.size
     have HB2:=Lib.hid (fun o=>Kept.alloc (lo:=lo) (hi:=hi) (e:=et) wr o)
     have HS2:Hid (∀o:Obj,hi≤(wr.alloc o).heap.size):=fun o=>by simp;omega
     have HJJ:Hid (∀o:Obj,J (pre++[xc]++L) (wr.alloc o)):=fun o=>HJ.out _ _ _ HJL.out
     have HC2:Hid (∀o:Obj,Cells w0 (wr.alloc o)):=fun o=>(HB2.out o).cells HCW.out hlo
     clear hx1 hr1 hcw hmem hrx hpp hbd hlen
     gi_wp2_with fail
     refine (HH1.out _ _ (HC2.out _) (HS2.out _) (HJJ.out _)).mono ?_
     rintro e W3 (⟨rfl,⟨L3,hL3,hJ3⟩,hk3⟩|⟨rfl,q,hq,hx3⟩)
     ·have HL3:=Lib.hid hL3;have HJ3:=Lib.hid hJ3;have HK3:=Lib.hid (HKW.out.trans ((HB2.out _).trans hk3))
      clear hL3 hJ3 hk3
      gi_wp2_with fail
      go_roundw
      case rel=>exact ⟨rfl,i+1,by go_num,by omega,HK3.out,L++L3,by rw [HPP.out];simp [HL.out,HL3.out],by simpa using HJ3.out⟩
      case measure=>simp [intOf];omega
     ·have HQ:=Lib.hid hq;have HX3:=Lib.hid hx3
      clear hq hx3
      gi_wp2_with fail
      go_ret
      refine .inr ⟨rfl,[xc]++(L++q), ?_,by simpa using HX3.out⟩
      obtain ⟨r,hr⟩:=HQ.out
      have h2:=fW (kids.take (i+1)) (kids.drop (i+1))
      rw [List.take_append_drop,HPP.out] at h2
      refine ⟨r++(bN (kids.drop (i+1))).map Ex.sig, ?_⟩
      rw [h2]
      simp [HXS.out,Ex.sig,HL.out, ← hr]
    ·gi_wp2
     go_ret
     obtain rfl:i=kids.length:=by omega
     refine .inl ⟨rfl,⟨[xc]++L, ?_,by simpa using HJL.out⟩,HKW.out⟩
     simp [HXS.out,Ex.sig,HL.out]
  ·gi_wp2
   go_ret
   exact .inr ⟨rfl,[xc],by simp [HXS.out,Ex.sig],hx2⟩
set_option maxRecDepth 100000 in
set_option maxHeartbeats 2000000 in
theorem ni (F:Fence) (hF: ∀f,F.fn f) (hd:F.depth=none) (hro:F.round=none) (n lo hi B:Nat) (et:TypeId) (het:43≠et) (x:Ex) (cx:List Value) (w0 w:World) (hlo:w0.heap.size≤lo) (hhi:hi≤w.heap.size)
  (hx:cf w0 x cx) (hok:x.ok) (hc:Cells w0 w) (hB:w.heap[B]? = some (.cells cx.toArray 43)) :
  SeqStopsK F n Tryz.prog 117 #[.pointer (some ⟨B,0,none⟩)] (fun c:XC=> #[c.val]) (Kept lo hi et) (fun L=>L.map XC.sig=(ak x).map Ex.sig) (fun q=>q.map XC.sig <+: (ak x).map Ex.sig) (ak x).length w:=by
 intro l J Jx W hW hJ hJx hY h0
 have hw:=yq F hF hd hro l (ak x).length lo hi et het J Jx w0 hlo (fun pre W o h=>hJ pre _ _ none h (World.grownBy_alloc W o none) (fun r e=>by cases e)) (fun m pre c W hj hl=>mE hd m (hY pre c W hj hl)) x (n - 1) cx [] W hx hok (hc.trans (.of hW)) (IW hhi hW.size) h0 (by simp)
 obtain ⟨k,s,kids⟩:=x
 rw [cf] at hx
 obtain ⟨sv,rfl,hr⟩:=hx
 obtain ⟨p,c,rfl, -, -⟩:=hr.shape
 have hbw:=(hW.block B (Array.getElem?_eq_some_iff.1 hB).1).trans hB
 have c0:=ag hbw 0
 have c1:=ag hbw 1
 have c2:=ag hbw 2
 simp only [Jg,KH,Kd] at c0 c1 c2
 have HW:=Lib.hid hw
 have hdd: ∀k:Nat,(F.depth.isSome=true→1≤k):=fun k h=>by rw [hd] at h;cases h
 clear hw hJ hJx hY h0 hr hbw hB hc hW
 refine callsIn_of_wp Tryz.func117 rfl (hF _) ?_ hro
 simp only [Tryz.ntmps117,Jo,I5,IZ,Nat.reduceAdd,Nat.reduceSub,KD,KE,KF,KG,Kr,Kq]
 gi_wp2_with fail
 refine HW.out.mono ?_
 rintro e W1 (⟨rfl,⟨L,hL,hJ1⟩, -⟩|⟨rfl,q,hq,hx⟩)
 ·have HL:=Lib.hid hL;have HJ1:=Lib.hid hJ1
  clear hL hJ1
  gi_wp2
  go_end0
  exact ⟨⟨_,rfl⟩, .inl ⟨L,HL.out,by simpa using HJ1.out⟩⟩
 ·have HQ:=Lib.hid hq;have HX:=Lib.hid hx
  clear hq hx
  gi_wp2
  go_end0
  exact ⟨⟨_,rfl⟩, .inr ⟨q,HQ.out,by simpa using HX.out⟩⟩
set_option maxHeartbeats 1000000 in
theorem qR (k:Int) (s:ByteArray) (p:Option Addr) (n c:Nat) (w:World) :
  Calls Tryz.prog 98 #[.agg #[.int .i64 k, .string s, .slice p n c]] w fun e w'=>e = .returned (.func (.func 117) #[] #[.pointer (some ⟨w.heap.size,0,none⟩)])∧w.alloc (.cells #[.int .i64 k, .string s, .slice p n c] 43)=w':=by
 go_enter Tryz.func98,Tryz.ntmps98
 go_wp2_with fail
 go_ret
 exact ⟨rfl,rfl⟩
open Go.RowKit Go.Shelf
attribute [local go_sem] Oper.semAt_some
set_option maxRecDepth 100000 in
set_option maxHeartbeats 2000000 in
theorem sH (x:Ex) (cx:List Value) (w:World) (hx:cf w x cx) (hok:x.ok) (hN:(ak x).length≤1000000) :
  Calls Tryz.prog 57 #[.agg cx.toArray] w (fU w (.int .i64 (ak x).length)):=by
 obtain ⟨k,s,kids⟩:=x
 have hx':=hx
 rw [cf] at hx
 obtain ⟨sv,rfl,hr⟩:=hx
 obtain ⟨p,c,rfl, -, -⟩:=hr.shape
 refine (callsIn_wide (n:=9)).1 ?_
 have HX:=Lib.hid hx';have HO:=Lib.hid hok;have HN:=Lib.hid hN
 clear hx' hok hN hr
 refine callsIn_of_wp_marks Tryz.func57 rfl trivial ?_ rfl
 simp only [Tryz.ntmps57,Jo,I5,IZ,Nat.reduceAdd,Nat.reduceSub,KD,KE,KF,KG,Kr,Kq]
 gi_wp2_with fail
 refine ⟨trivial, ?_⟩
 refine (callsIn_wide.2 (qR _ _ _ _ _ _)).mono ?_
 rintro e w' ⟨rfl,rfl⟩
 gi_wp2_with fail
 obtain ⟨W0,hW0⟩: ∃W0,((w.alloc (.cells #[.int .i64 k, .string s, .slice p kids.length c] 43)).alloc (.cells #[.int .i64 0] 3)).alloc (.cells #[.int .i64 k, .string s, .slice p kids.length c] 43)=W0:=⟨_,rfl⟩
 have hs0:W0.heap.size=w.heap.size+3:=by rw [←hW0];simp
 have hb0:Below w.heap.size w W0:=by rw [←hW0];exact (((Below.refl w.heap.size w).alloc (IV _) _).alloc (by simp) _).alloc (by simp;omega) _
 have hbn:W0.heap[w.heap.size+1]? = some (.cells #[.int .i64 0] 3 (0,0)):=by rw [←hW0];exact gY (by have:=aX (w.alloc (.cells #[.int .i64 k, .string s, .slice p kids.length c] 43)) (.cells #[.int .i64 0] 3);simpa using this) _
 have hbp:W0.heap[w.heap.size+2]? = some (.cells #[.int .i64 k, .string s, .slice p kids.length c] 43 (0,0)):=by rw [←hW0];have:=aX ((w.alloc (.cells #[.int .i64 k, .string s, .slice p kids.length c] 43)).alloc (.cells #[.int .i64 0] 3)) (.cells #[.int .i64 k, .string s, .slice p kids.length c] 43);simpa using this
 have hseq:=ni Fence.wide (fun _=>trivial) rfl rfl 8 w.heap.size (w.heap.size+2) (w.heap.size+2) 0 (by decide) _ _ w W0 (IV _) (by omega) HX.out HO.out (.of hb0) hbp
 rw [hW0]
 refine CC (lb:= #[.pointer (some ⟨w.heap.size+2,0,none⟩)]) (gf:=117) rfl (enters_of Tryz.func117 (by kernel_rfl) rfl) hseq (Below.refl _ _) (fun _=>rfl)
  (fun pre W=>Below w.heap.size w W∧W.heap[w.heap.size+1]? = some (.cells #[.int .i64 pre.length] 3 (0,0))) (fun _ _ _=>False)
  ((ownFrom_below (IV _) (by omega)).and (fG _ _ (fun s:List XC=> #[.int .i64 s.length]) _)) (fun _ _ _ _ _ hs _ _=>hs) ⟨hb0,hbn⟩ ?assign ?body ?done ?stop
 case assign=>
  intro l x W K hK
  gi_wp2
  exact hK
 case body=>
  rintro l pre x W hl hrec ⟨hb,hn⟩ hlen
  have hnl:pre.length<1000000:=by have:=HN.out;omega
  have hcn:=ag hn 0
  have hfn:=bK hn 0
  simp only [Jg,Kd] at hcn
  have HB:=Lib.hid hb;have HNN:=Lib.hid hn
  clear hb hn
  simp only [cA,KI,KJ,Ks,Kt,KK,KL,KM]
  gi_wp2
  exact ⟨(KeepsOthers.setCell _ _ _).from _,Kept.setCell W (by omega) (by omega) _,HB.out.setCell (p:=⟨w.heap.size+1,0,none⟩) (Nat.le_succ _) _,by simpa using fl HNN.out (.int .i64 ((pre.length:Int)+1))⟩
 case done=>
  rintro D xs W hD hS ⟨hb,hn⟩ hK
  have hcn:=ag hn 0
  have hfn:=bK hn 0
  simp only [Jg,Kd] at hcn
  have HB:=Lib.hid hb;have HNN:=Lib.hid hn;have HK:=Lib.hid hK;have HD:=Lib.hid hD;have HS:=Lib.hid hS;have H0:=Lib.hid hs0
  clear hb hn hK hD hS hs0 hW0 hb0 hbn hbp hseq
  gi_wp2
  have hD:=HD.out
  have h0:=H0.out
  have hKs:=dQ HK.out (b:=w.heap.size+1) (o:=0) (.int .i64 (xs.length:Int)) (by omega)
  refine ⟨by simp, .inl ⟨_,_,rfl,run_takeDeferred hKs, ?_⟩⟩
  have hbx:=dM (fl HNN.out (.int .i64 (xs.length:Int))) (.deferred none) (D:=D) (by omega)
  have hcf:=ag hbx 0
  simp only [Jg,Kd] at hcf
  have hlen:xs.length=(ak (.mk k s kids)).length:=by simpa using congrArg List.length HS.out
  refine ⟨.int .i64 xs.length, ?_,iz rfl (by rw [hlen]) ?_⟩
  ·simp [results,Tryz.results57,go_sem,hcf]
  ·exact iY (HB.out.setCell (p:=⟨w.heap.size+1,0,none⟩) (Nat.le_succ _) _) (by omega) _ hKs
 case stop=>
  rintro D c pre W _ _ h _
  exact h.elim
theorem s6 {x:Ex} {q:List XC} (h:q.map XC.sig <+: (ak x).map Ex.sig) (hq:24<q.length∨ ∃c,c∈q∧nh c.sig=false):gp x=false:=by
 rw [mQ]
 obtain ⟨r,hr⟩:=h
 rw [←hr]
 rcases hq with hq|⟨c,hc,hf⟩
 ·rw [decide_eq_false (by simp;omega),Bool.false_and]
 ·have:(q.map XC.sig++r).all nh=false:=by
   rw [List.all_eq_false]
   exact ⟨c.sig,by simp;exact .inl ⟨c,hc,rfl⟩,by rw [hf];decide⟩
  rw [this,Bool.and_false]
theorem se {x:Ex} {q:List XC} (h:q.map XC.sig=(ak x).map Ex.sig) (hq:q.length≤24) (hp: ∀c,c∈q→nh c.sig=true):gp x=true:=by
 rw [mQ, ← h,decide_eq_true (by simpa using hq),Bool.true_and,List.all_map,List.all_eq_true]
 exact hp
set_option maxRecDepth 100000 in
set_option maxHeartbeats 4000000 in
theorem vD (x:Ex) (cx:List Value) (w:World) (hx:cf w x cx) (hok:x.ok) :
  Calls Tryz.prog 85 #[.agg cx.toArray] w (fU w (.bool (gp x))):=by
 obtain ⟨k,s,kids⟩:=x
 have hx':=hx
 rw [cf] at hx
 obtain ⟨sv,rfl,hr⟩:=hx
 obtain ⟨p,c,rfl, -, -⟩:=hr.shape
 refine (callsIn_wide (n:=9)).1 ?_
 have HX:=Lib.hid hx';have HO:=Lib.hid hok
 clear hx' hok hr
 refine callsIn_of_wp_marks Tryz.func85 rfl trivial ?_ rfl
 simp only [Tryz.ntmps85,Jo,I5,IZ,Nat.reduceAdd,Nat.reduceSub,KD,KE,KF,KG,Kr,Kq]
 gi_wp2_with fail
 refine ⟨trivial, ?_⟩
 refine (callsIn_wide.2 (qR _ _ _ _ _ _)).mono ?_
 rintro e w' ⟨rfl,rfl⟩
 gi_wp2_with fail
 obtain ⟨bx,hbx⟩: ∃bx:Obj,bx = .cells #[.int .i64 k, .string s, .slice p kids.length c] 43:=⟨_,rfl⟩
 rw [←hbx]
 obtain ⟨W0,hW0⟩: ∃W0,(((w.alloc bx).alloc (.cells #[.bool false] 4)).alloc (.cells #[.int .i64 0] 3)).alloc bx=W0:=⟨_,rfl⟩
 have hs0:W0.heap.size=w.heap.size+4:=by rw [←hW0];simp
 have hb0:Below w.heap.size w W0:=by rw [←hW0];exact ((((Below.refl w.heap.size w).alloc (IV _) _).alloc (by simp) _).alloc (by simp;omega) _).alloc (by simp;omega) _
 have hbr:W0.heap[w.heap.size+1]? = some (.cells #[.bool false] 4 (0,0)):=by rw [←hW0];exact gY (gY (by simpa using aX (w.alloc bx) _) _) _
 have hbn:W0.heap[w.heap.size+2]? = some (.cells #[.int .i64 0] 3 (0,0)):=by rw [←hW0];exact gY (by simpa using aX ((w.alloc bx).alloc (.cells #[.bool false] 4)) _) _
 have hbp:W0.heap[w.heap.size+3]? = some bx:=by rw [←hW0];simpa using aX (((w.alloc bx).alloc (.cells #[.bool false] 4)).alloc (.cells #[.int .i64 0] 3)) bx
 rw [hbx] at hbp
 have hseq:=ni Fence.wide (fun _=>trivial) rfl rfl 8 w.heap.size (w.heap.size+3) (w.heap.size+3) 0 (by decide) _ _ w W0 (IV _) (by omega) HX.out HO.out (.of hb0) hbp
 rw [hW0]
 clear hbx
 refine D6 (lb:= #[.pointer (some ⟨w.heap.size+3,0,none⟩)]) (gf:=117) rfl (enters_of Tryz.func117 (by kernel_rfl) rfl) hseq (Below.refl _ _) (fun _=>rfl)
  (fun pre W=>(Below w.heap.size w W∧W.heap[w.heap.size+2]? = some (.cells #[.int .i64 pre.length] 3 (0,0))∧W.heap[w.heap.size+1]? = some (.cells #[.bool false] 4 (0,0))∧W0.heap.size≤W.heap.size)∧pre.length≤24∧ ∀c,c∈pre→nh c.sig=true)
  (fun c pre W=>(Below w.heap.size w W∧W.heap[w.heap.size+1]? = some (.cells #[.bool false] 4 (0,0)))∧c = .ret∧(24<pre.length∨ ∃c,c∈pre∧nh c.sig=false))
  (((ownFrom_below (IV _) (by omega)).and ((fG _ _ (fun s:List XC=> #[.int .i64 s.length]) _).and ((fG _ _ (fun _:List XC=> #[.bool false]) _).and (fun _ _ _ _ hs hg _=>IW hs hg.size)))).and (ownFrom_pure _ _))
  (fun _=>((ownFrom_below (IV _) (by omega)).and (fG _ _ (fun _:List XC=> #[.bool false]) _)).and (ownFrom_pure _ _))
  ⟨⟨hb0,hbn,hbr,IV _⟩,Nat.zero_le _,fun _ h=>by cases h⟩ 4 (fun c=> #[.int .i64 c.kind, .string c.label, .slice c.ptr c.len c.cap]) 43 (fun _ _ h=>h.1.2.2.2) ?assign ?body ?done ?stop
 case assign=>
  intro l x W K hK
  simp only [cA,XC.val,KI,KJ,Ks,Kt,KK,KL,KM]
  simp only [cA,XC.val,Act.ic,KI,KJ,Ks,Kt,KK,KL,KM] at hK
  gi_wp2
  exact hK
 case body=>
  rintro l pre x B W hl hrec ⟨⟨hb,hn,hr,hsz⟩,hle,hall⟩ hB hbB hlen
  have hcn:=ag hn 0
  have hfn:=bK hn 0
  have hcr:=ag hr 0
  have hfr:=bK hr 0
  have hp0:=ag hbB 0
  have hp1:=ag hbB 1
  have hp2:=ag hbB 2
  simp only [Jg,Kd,KH] at hcn hcr hp0 hp1 hp2
  have hB1: ¬B=w.heap.size+2:=by omega
  have hB2: ¬w.heap.size+2=B:=by omega
  obtain ⟨W1,hW1⟩: ∃W1,W1=W.setCell ⟨w.heap.size+2,0,none⟩ (.int .i64 ((pre.length:Int)+1)):=⟨_,rfl⟩
  have hk1:Kept w.heap.size (w.heap.size+3) 0 W W1:=by rw [hW1];exact Kept.setCell W (by omega) (by omega) _
  have hf1:KeepsFrom W0.heap.size W W1:=by rw [hW1];exact (KeepsOthers.setCell _ _ _).from _
  have hbw1:Below w.heap.size w W1:=by rw [hW1];exact hb.setCell (p:=⟨w.heap.size+2,0,none⟩) (by simp) _
  have hn1:W1.heap[w.heap.size+2]? = some (.cells #[.int .i64 ((pre++[x]).length:Nat)] 3 (0,0)):=by rw [hW1];simpa using fl hn (.int .i64 ((pre.length:Int)+1))
  have hr1:W1.heap[w.heap.size+1]? = some (.cells #[.bool false] 4 (0,0)):=by rw [hW1];exact dQ hr _ (by omega)
  have hz1:W0.heap.size≤W1.heap.size:=by rw [hW1];exact IW hsz (KeepsOthers.setCell _ _ _).size
  have HA:=Lib.hid (show _∧_∧_∧_∧_∧_ from ⟨hk1,hf1,hbw1,hn1,hr1,hz1⟩)
  have hzl:w.heap.size+1<W1.heap.size:=by omega
  have HP:=Lib.hid (fun W'=>Bl x.kind x.label x.ptr x.len x.cap W' x.hl x.hn)
  have HS:Hid (∀b,aM x.kind x.label x.len=b→nh x.sig=b):=fun b h=>h
  have HALL:=Lib.hid hall
  have HB0:=Lib.hid hb
  have HW1:=Lib.hid hW1
  clear hb hn hr hbB hk1 hf1 hbw1 hn1 hr1 hz1 hall hW1 hsz
  simp only [cA,Act.ic,KI,KJ,Ks,Kt,KK,KL,KM]
  by_cases h24:pre.length=24
  ·have hgt:(24:Int)<(pre.length:Int)+1:=by omega
   have H24:=Lib.hid h24;clear h24
   have hcr1:=ag HA.out.2.2.2.2.1 0
   have hfr1:=bK HA.out.2.2.2.2.1 0
   rw [HW1.out] at hcr1 hfr1
   simp only [Jg,Kd] at hcr1
   gi_wp2_with fail
   refine ⟨trivial, ?_⟩
   gi_wp2
   obtain ⟨hk1,hf1,hbw1,hn1,hr1,hz1⟩:=HA.out
   rw [HW1.out] at hf1 hbw1 hr1
   refine ⟨hf1.trans ((KeepsOthers.setCell _ _ _).from _),⟨hbw1.setCell (p:=⟨w.heap.size+1,0,none⟩) (by simp) _,fl hr1 _⟩,rfl, .inl (by have:=H24.out;simp;omega)⟩
  ·have hgt: ¬(24:Int)<(pre.length:Int)+1:=by omega
   have H24:=Lib.hid h24
   clear h24
   cases hpb:aM x.kind x.label x.len
   ·rw [hpb] at HP
    have HPB:=Lib.hid (HS.out _ hpb);clear hpb
    gi_wp2_with fail
    refine ⟨trivial,(CallsIn.inRound l (callsIn_wide.2 (HP.out _))).mono ?_⟩
    rintro e w2 ⟨rfl,hb2⟩
    have hb2':Below W1.heap.size W1 w2:=by rw [HW1.out];exact hb2
    clear hb2
    obtain ⟨hk1,hf1,hbw1,hn1,hr1,hz1⟩:=HA.out
    have hr2:w2.heap[w.heap.size+1]? = some (.cells #[.bool false] 4 (0,0)):=(hb2'.block _ (by omega)).trans hr1
    have hcr1:=ag hr2 0
    have hfr1:=bK hr2 0
    simp only [Jg,Kd] at hcr1
    have HR2:=Lib.hid hr2;have HB2:=Lib.hid hb2'
    clear hk1 hf1 hbw1 hn1 hr1 hz1 hr2 hb2'
    gi_wp2
    obtain ⟨hk1,hf1,hbw1,hn1,hr1,hz1⟩:=HA.out
    exact ⟨(hf1.trans (jn HB2.out)).trans ((KeepsOthers.setCell _ _ _).from _),⟨(aa hbw1 HB2.out).setCell (p:=⟨w.heap.size+1,0,none⟩) (by simp) _,fl HR2.out _⟩,rfl, .inr ⟨x,by simp,HPB.out⟩⟩
   ·rw [hpb] at HP
    have HPB:=Lib.hid (HS.out _ hpb);clear hpb
    gi_wp2_with fail
    refine ⟨trivial,(CallsIn.inRound l (callsIn_wide.2 (HP.out _))).mono ?_⟩
    rintro e w2 ⟨rfl,hb2⟩
    have HB2:Hid (Below W1.heap.size W1 w2):=by show Below _ _ _;rw [HW1.out];exact hb2
    clear hb2
    gi_wp2
    obtain ⟨hk1,hf1,hbw1,hn1,hr1,hz1⟩:=HA.out
    have hb2:=HB2.out
    refine ⟨hf1.trans (jn hb2),hk1.trans (Kept.below hb2),⟨aa hbw1 hb2,(hb2.block _ (by omega)).trans hn1,(hb2.block _ (by omega)).trans hr1,IW hz1 hb2.size⟩,by have:=H24.out;simp;omega, ?_⟩
    intro c hc
    rcases List.mem_append.1 hc with hc|hc
    ·exact HALL.out c hc
    ·rw [List.mem_singleton.1 hc];exact HPB.out
 case done=>
  rintro D xs W hD hS ⟨⟨hb,hn,hr,hsz⟩,hle,hall⟩ hK
  have hcr:=ag hr 0
  have hfr:=bK hr 0
  simp only [Jg,Kd] at hcr
  have hfin:=se hS hle hall
  have HF:=Lib.hid hfin;have HR:=Lib.hid hr;have HB:=Lib.hid hb;have HK:=Lib.hid hK;have HD:=Lib.hid hD;have H0:=Lib.hid hs0
  clear hb hn hr hsz hle hall hK hD hS hfin hW0 hb0 hbr hbn hbp hseq hs0
  gi_wp2
  have hD:=HD.out;have h0:=H0.out
  have hKs:=dQ HK.out (b:=w.heap.size+1) (o:=0) (.bool true) (by omega)
  refine ⟨by simp, .inl ⟨_,_,rfl,run_takeDeferred hKs, ?_⟩⟩
  have hbx:=dM (fl HR.out (.bool true)) (.deferred none) (D:=D) (by omega)
  have hcf:=ag hbx 0
  simp only [Jg,Kd] at hcf
  refine ⟨.bool true, ?_,aq rfl HF.out.symm ?_⟩
  ·simp [results,Tryz.results85,go_sem,hcf]
  ·exact iY (HB.out.setCell (p:=⟨w.heap.size+1,0,none⟩) (Nat.le_succ _) _) (by omega) _ hKs
 case stop=>
  rintro D c pre W hD hSp ⟨⟨hb,hr⟩,rfl,hq⟩ hK
  have hfin:=s6 hSp hq
  have HF:=Lib.hid hfin;have HR:=Lib.hid hr;have HB:=Lib.hid hb;have HK:=Lib.hid hK;have HD:=Lib.hid hD;have H0:=Lib.hid hs0
  clear hb hr hK hD hSp hq hfin hW0 hb0 hbr hbn hbp hseq hs0
  gi_wp2
  have hD:=HD.out;have h0:=H0.out
  refine ⟨by simp, .inl ⟨_,_,rfl,run_takeDeferred HK.out, ?_⟩⟩
  have hbx:=dM HR.out (.deferred none) (D:=D) (by omega)
  have hcf:=ag hbx 0
  simp only [Jg,Kd] at hcf
  refine ⟨.bool false, ?_,aq rfl HF.out.symm ?_⟩
  ·simp [results,Tryz.results85,go_sem,hcf]
  ·exact iY HB.out (by omega) _ HK.out
end Go.Proofs.YtldnlbcibmmbbaaGreat
