/- kinescopelaw11.awake tells true. -/
import Derived.Test.YtldnlbcibmmbbaaGreatWGood
import Derived.Test.YtldnlbcibmmbbaaGreatWTreeD
import Derived.Test.YtldnlbcibmmbbaaGreatWRef07
import Derived.Test.YtldnlbcibmmbbaaGreatWLentQ
set_option linter.unusedSimpArgs false
set_option linter.unusedVariables false
open Bool renaming and_self → Km
open List renaming mem_cons → KX, not_mem_nil → KY, getElem?_toArray → Jg, getElem?_cons_zero → Kd, getElem?_cons_succ → KH
open Nat renaming le_refl → IV
namespace Go.Proofs.YtldnlbcibmmbbaaGreat
open Go.RowKit
attribute [local go_sem] Oper.semAt_some
theorem yu:aQ dg=true:=by kernel_rfl
theorem Fg:aA (ba dg.ao)=[b1 97,b1 98,b1 99]:=by kernel_rfl
theorem E2:aA (bl dg.ao)=[b1 101]:=by kernel_rfl
theorem A0:j3 dg=6:=by kernel_rfl
theorem Ao:dg.ok:=by
 refine ⟨fun p hp=> ?_,fun c hc=>absurd hc (by simp [dg]),fun o ho=> ?_⟩
 ·simp only [dg,KX,KY,or_false] at hp
  rcases hp with rfl|rfl
  ·exact ⟨by unfold jx;decide,by unfold jx;decide,by unfold jx;decide,by unfold jx;decide,by rw [Ex.ok,lH];exact ⟨by unfold jx;decide,trivial⟩⟩
  ·exact ⟨by unfold jx;decide,by unfold jx;decide,by unfold jx;decide,by unfold jx;decide,by rw [Ex.ok,lH,lH,Ex.ok,lH];exact ⟨by unfold jx;decide,⟨by unfold jx;decide,trivial⟩,trivial⟩⟩
 ·simp only [dg,KX,KY,or_false] at ho
  rcases ho with rfl|rfl<;>exact ⟨by unfold jx;decide,by unfold jx;decide,by unfold iI.ok jx;decide⟩
theorem Hl:bT dr [b1 97,b1 98,b1 99] [b1 97,b1 98,b1 99]=true:=by kernel_rfl
theorem Gx:bT dr [b1 101] [b1 101]=true:=by kernel_rfl
theorem tk {w:World} {g:Nat} {t:TypeId} {fz:Nat×Nat} {C:Array Value} {xs:List ByteArray} {n:Nat} (h:w.heap[g]? = some (.cells C t fz)) (hC:C.toList=xs.flatMap (fun s=>[.string s])) (hn:n=xs.length) (hm:n≤maxLen):ez w xs (.slice (some ⟨g,0,none⟩) n n):=
 jc (rd:=xO) (sz:=1) h (fun s=>[.string s]) (fun _ _=>(rfl:xO _ _)) (fun _ _=>rfl) hC hn (IV _) hm
set_option maxRecDepth 100000 in
set_option maxHeartbeats 1000000 in
theorem uW (w:World):Calls Tryz.prog 10 #[] w (fU w (.bool true)):=by
 go_enter Tryz.func10,Tryz.ntmps10
 go_wp2_with fail
 refine (vZ _).mono ?_
 rintro e w1 ⟨cx,rfl,hq,hb1⟩
 have H1:=Lib.hid (fun W (hw:Below w1.heap.size w1 W)=>yu ▸ kE dg cx W (hq.below hw) Ao)
 have H2:=Lib.hid (fun W (hw:Below w1.heap.size w1 W)=>Fg ▸ lj dg cx W (hq.below hw) (by decide))
 have H3:=Lib.hid (fun W (hw:Below w1.heap.size w1 W)=>E2 ▸ rE dg cx W (hq.below hw) (by decide))
 have H4:=Lib.hid (fun W (hw:Below w1.heap.size w1 W)=>lf dg cx W (hq.below hw) Ao (by decide) (by
  intro p hp
  simp only [dg,KX,KY,or_false] at hp
  rcases hp with rfl|rfl<;>decide))
 have HB:=Lib.hid hb1
 obtain ⟨v1,v2,v3,r1,r2,r3,rfl⟩:=hq
 obtain ⟨p1,c1,rfl, -, -⟩:=r1.shape
 obtain ⟨p2,c2,rfl, -, -⟩:=r2.shape
 obtain ⟨p3,c3,rfl, -, -⟩:=r3.shape
 clear r1 r2 r3 hb1
 go_wp2_with fail
 generalize hW1:w1.alloc (.cells _ _)=W1
 have hx1:W1.heap[w1.heap.size]? = some (.cells #[.slice p1 dg.ao.length c1, .slice p2 dg.conds.length c2, .slice p3 dg.ret.length c3, .int .i64 dg.range, .int .i64 dg.cU] 26 (0,0)):=by rw [←hW1];exact aX _ _
 have hs1:W1.heap.size=w1.heap.size+1:=by rw [←hW1];simp
 have hB1:Below w1.heap.size w1 W1:=by rw [←hW1];exact (Below.refl _ _).alloc (IV _) _
 clear hW1
 refine (H1.out _ hB1).mono ?_
 rintro e w2 ⟨rfl,hb2⟩
 have C:=Lib.hid (fun W (h:Below W1.heap.size W1 W)=>(h.block w1.heap.size (by omega)).trans hx1)
 have e0:=ag (C.out w2 hb2) 0
 have e1:=ag (C.out w2 hb2) 1
 have e2:=ag (C.out w2 hb2) 2
 have e3:=ag (C.out w2 hb2) 3
 have e4:=ag (C.out w2 hb2) 4
 simp only [Jg,Kd,KH] at e0 e1 e2 e3 e4
 have HB2:=Lib.hid hb2;have HB1:=Lib.hid hB1;have HS1:=Lib.hid hs1
 clear hb2 hB1 hs1 hx1
 go_wp2_with fail
 refine (H2.out _ (aa HB1.out HB2.out)).mono ?_
 rintro e w3 ⟨v,rfl,hv,hb3, -⟩
 obtain ⟨p,c,rfl, -, -⟩:=hv.shape
 have HV:=Lib.hid hv;have HB3:=Lib.hid hb3
 clear hv hb3 e0 e1 e2 e3 e4
 go_wp2_with fail
 generalize hW4:w3.alloc (.cells _ _)=W4
 have hb4:Below w3.heap.size w3 W4:=by rw [←hW4];exact (Below.refl _ _).alloc (IV _) _
 have hr4:ez W4 [b1 97,b1 98,b1 99] (.slice (some ⟨w3.heap.size,0,none⟩) 3 3):=by
  rw [←hW4];exact tk (aX _ _) rfl rfl (show 3≤maxLen by unfold maxLen;omega)
 clear hW4
 refine ((Hl ▸ g9 _ _ _ _ W4 (HV.out.below hb4) hr4:Calls _ _ _ _ (fU W4 (.bool true)))).mono ?_
 rintro e w5 ⟨rfl,hb5⟩
 have hb5':=aa HB2.out (aa HB3.out (aa hb4 hb5))
 have e0:=ag (C.out w5 hb5') 0
 have e1:=ag (C.out w5 hb5') 1
 have e2:=ag (C.out w5 hb5') 2
 have e3:=ag (C.out w5 hb5') 3
 have e4:=ag (C.out w5 hb5') 4
 simp only [Jg,Kd,KH] at e0 e1 e2 e3 e4
 have HB5:=Lib.hid hb5'
 clear hb4 hb5 hb5' hr4
 go_wp2_with fail
 refine (H3.out _ (aa HB1.out HB5.out)).mono ?_
 rintro e w6 ⟨v6,rfl,hv6,hb6, -⟩
 obtain ⟨p6,c6,rfl, -, -⟩:=hv6.shape
 have HV6:=Lib.hid hv6;have HB6:=Lib.hid hb6
 clear hv6 hb6 e0 e1 e2 e3 e4
 go_wp2_with fail
 generalize hW7:w6.alloc (.cells _ _)=W7
 have hb7:Below w6.heap.size w6 W7:=by rw [←hW7];exact (Below.refl _ _).alloc (IV _) _
 have hr7:ez W7 [b1 101] (.slice (some ⟨w6.heap.size,0,none⟩) 1 1):=by
  rw [←hW7];exact tk (aX _ _) rfl rfl (show 1≤maxLen by unfold maxLen;omega)
 clear hW7
 refine ((Gx ▸ g9 _ _ _ _ W7 (HV6.out.below hb7) hr7:Calls _ _ _ _ (fU W7 (.bool true)))).mono ?_
 rintro e w8 ⟨rfl,hb8⟩
 have hb8':=aa HB5.out (aa HB6.out (aa hb7 hb8))
 have e0:=ag (C.out w8 hb8') 0
 have e1:=ag (C.out w8 hb8') 1
 have e2:=ag (C.out w8 hb8') 2
 have e3:=ag (C.out w8 hb8') 3
 have e4:=ag (C.out w8 hb8') 4
 simp only [Jg,Kd,KH] at e0 e1 e2 e3 e4
 have HB8:=Lib.hid hb8'
 clear hb7 hb8 hb8' hr7
 go_wp2_with fail
 refine (H4.out _ (aa HB1.out HB8.out)).mono ?_
 rintro e w9 ⟨rfl,hb9⟩
 rw [A0]
 have HB9:=Lib.hid hb9
 clear hb9 e0 e1 e2 e3 e4
 go_wp2_with fail
 go_ret
 exact aq rfl rfl (aa HB.out (aa HB1.out (aa HB8.out HB9.out)))
theorem wb (q r:dF):ai Tryz.prog 18 [.agg (bI q), .agg (bI r)] (.v (.bool (bh q r))):=
 .fq (by kernel_rfl) (by simp only [bB,AV.wf,ff,Km]) (fun D nu w vargs h=>by
  obtain ⟨x,y,rfl,hx,hy⟩:=ja h
  obtain ⟨cx,rfl,kx⟩:=iV hx
  obtain ⟨cy,rfl,ky⟩:=iV hy
  exact rP q r cx cy w kx ky)
theorem mn:ai Tryz.prog 10 [] (.v (.bool true)):=
 .fq (by kernel_rfl) rfl (fun D nu w vargs h=>by
  obtain rfl:=B7 h
  exact uW w)
theorem pU (q:dF) (hq:q.small):ai Tryz.prog 14 [.agg (bI q)] (.v (.int .i64 (Di q:Nat))):=
 .fq (by kernel_rfl) (by simp only [bB,AV.wf,ff,Km]) (fun D nu w vargs h=>by
  obtain ⟨x,rfl,hx⟩:=gV h
  obtain ⟨cx,rfl,kx⟩:=iV hx
  exact vA q cx w kx hq)
theorem wv (q:dF) (hq:q.ok) (hN:q.ao.length+q.conds.length+q.ret.length≤1000) (hP: ∀p,p∈q.ao→(ak p.expr).length≤1000):ai Tryz.prog 22 [.agg (bI q)] (.v (.int .i64 (j3 q:Nat))):=
 .fq (by kernel_rfl) (by simp only [bB,AV.wf,ff,Km]) (fun D nu w vargs h=>by
  obtain ⟨x,rfl,hx⟩:=gV h
  obtain ⟨cx,rfl,kx⟩:=iV hx
  exact lf q cx w kx hq hN hP)
theorem zG (x:Ex): ∀y,y∈ak x→(ak y).length≤(ak x).length:=by
 induction x using Ex.ind with
 | h k s l ih=>
  intro y hy
  rw [ak,bJ] at hy
  rcases KX.1 hy with rfl|hy
  ·exact IV _
  ·obtain ⟨z,hz,hy⟩:=List.mem_flatMap.1 hy
   have h1:=ih z hz y hy
   have h2:=jQ ak l z hz
   rw [gu];omega
theorem De (x:Ex):x.kids.length≤(ak x).length:=by
 obtain ⟨k,s,l⟩:=x
 rw [gu]
 have:=ux l
 simp only [Ex.kids];omega
theorem BJ {x:Ex} {n:Nat} (h:(ak x).length≤n):x.lens n:=fun y hy=>by
 have h1:=zG x y hy
 have h2:=De y
 omega
theorem xg {q:dF} (h:Di q≤400):q.lens 1000000:=by
 obtain ⟨h1,h2⟩:=qb h
 exact ⟨by omega,by omega,by omega,fun p hp=>BJ (by have:=h2 p hp;omega)⟩
theorem CL (x:Ex):x.ok→ ∀y,y∈ak x→jx y.label:=by
 induction x using Ex.ind with
 | h k s l ih=>
  intro h y hy
  rw [Ex.ok] at h
  rw [ak,bJ] at hy
  rcases KX.1 hy with rfl|hy
  ·exact h.1
  ·obtain ⟨z,hz,hy⟩:=List.mem_flatMap.1 hy
   exact ih z hz (mb.1 h.2 z hz) y hy
theorem pB (l:List ByteArray):bT dr l l=true:=by
 induction l with
 | nil=>rfl
 | cons x xs ih=>simp [bT,dr,ih]
end Go.Proofs.YtldnlbcibmmbbaaGreat
