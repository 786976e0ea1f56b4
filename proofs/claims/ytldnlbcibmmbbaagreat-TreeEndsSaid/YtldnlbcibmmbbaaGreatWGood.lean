/- tree.Right -/
import Derived.Test.YtldnlbcibmmbbaaGreatWEvery
import Derived.Test.YtldnlbcibmmbbaaGreatWTy
import Derived.Test.YtldnlbcibmmbbaaGreatWEnc
import Derived.Test.YtldnlbcibmmbbaaGreatWVerts
import Derived.Test.YtldnlbcibmmbbaaGreatWSame
import Derived.Laws.Rows
import Derived.Test.YtldnlbcibmmbbaaGreatWRel
import Derived.Test.YtldnlbcibmmbbaaGreatWTreeD
set_option linter.unusedSimpArgs false
set_option linter.unusedVariables false
open Array renaming getElem?_modify → JS
open Bool renaming and_true → Kh, and_self → Km
open List renaming getElem?_toArray → Jg, getElem?_cons_zero → Kd, getElem?_cons_succ → KH
open Nat renaming le_refl → IV
namespace Go.Proofs.YtldnlbcibmmbbaaGreat
open Go.RowKit
theorem rY (w:World):gw 42 [] aR w:=fun x k s l v W _ ho he hr=>u7 x k s l v W ho he hr
theorem zh (w:World):gh 44 [] bU w:=fun x W _ ho=>Bs x W ho
theorem yj (w:World):gy 46 [] cq w:=fun x W _ ho=>zV x W ho
set_option maxRecDepth 100000 in
set_option maxHeartbeats 8000000 in
theorem kE (q:dF) (cx:List Value) (w:World) (hx:eb w q cx) (ho:q.ok):Calls Tryz.prog 16 #[.agg cx.toArray] w (fU w (.bool (aQ q))):=by
 obtain ⟨v1,v2,v3,r1,r2,r3,rfl⟩:=hx
 obtain ⟨o1,o2,o3⟩:=ho
 have H1:=Lib.hid (fun W=>fS (q.ao.length:Nat) 1 4 W)
 have H2:=Lib.hid (fun W=>fS (q.ret.length:Nat) 1 4 W)
 have H3:=Lib.hid (fun W=>fS q.range 1 1048576 W)
 have H4:=Lib.hid (fun W=>fS q.cU 1 1048576 W)
 have HP:=Lib.hid (fun W (hb:Below w.heap.size w W)=>AP 42 aR q.ao v1 W (bd hb r1) o1 (rY W) (enters_of Tryz.func42 (by kernel_rfl) rfl))
 have HC:=Lib.hid (fun W (hb:Below w.heap.size w W)=>Ac 44 bU q.conds v2 W (r2.below hb) o2 (zh W) (enters_of Tryz.func44 (by kernel_rfl) rfl))
 have HR:=Lib.hid (fun W (hb:Below w.heap.size w W)=>Bt 46 cq q.ret v3 W (r3.below hb) o3 (yj W) (enters_of Tryz.func46 (by kernel_rfl) rfl))
 have HB:=Lib.hid (fun ob=>((Below.refl w.heap.size w).alloc (IV _) ob))
 obtain ⟨p1,k1,rfl,l1,m1⟩:=r1.shape
 obtain ⟨p2,k2,rfl,l2,m2⟩:=r2.shape
 obtain ⟨p3,k3,rfl,l3,m3⟩:=r3.shape
 unfold maxLen at m1 m2 m3
 clear r1 r2 r3 o1 o2 o3
 cases g1:kr (q.ao.length:Nat) 1 4
 ·rw [g1] at H1
  have hfin:aQ q=false:=by simp [aQ,g1]
  rw [hfin];clear hfin H2 H3 H4 HP HC HR g1
  go_enter Tryz.func16,Tryz.ntmps16
  go_wp2_with fail
  refine (H1.out _).mono ?_
  rintro e w' ⟨rfl,rfl⟩
  go_wp2_with fail
  go_ret
  exact aq rfl rfl (HB.out _)
 ·rw [g1] at H1
  by_cases g2:q.conds.length≤6
  ·cases g3:kr (q.ret.length:Nat) 1 4
   ·rw [g3] at H2
    have hfin:aQ q=false:=by simp [aQ,g1,g2,g3]
    rw [hfin];clear hfin H3 H4 HP HC HR g1 g3
    go_enter Tryz.func16,Tryz.ntmps16
    go_wp2_with fail
    refine (H1.out _).mono ?_
    rintro e w' ⟨rfl,rfl⟩
    go_wp2_with fail
    refine (H2.out _).mono ?_
    rintro e w' ⟨rfl,rfl⟩
    go_wp2_with fail
    go_ret
    exact aq rfl rfl (HB.out _)
   ·rw [g3] at H2
    cases g4:kr q.range 1 1048576
    ·rw [g4] at H3
     have hfin:aQ q=false:=by simp [aQ,g1,g2,g3,g4]
     rw [hfin];clear hfin H4 HP HC HR g1 g3 g4
     go_enter Tryz.func16,Tryz.ntmps16
     go_wp2_with fail
     refine (H1.out _).mono ?_
     rintro e w' ⟨rfl,rfl⟩
     go_wp2_with fail
     refine (H2.out _).mono ?_
     rintro e w' ⟨rfl,rfl⟩
     go_wp2_with fail
     refine (H3.out _).mono ?_
     rintro e w' ⟨rfl,rfl⟩
     go_wp2_with fail
     go_ret
     exact aq rfl rfl (HB.out _)
    ·rw [g4] at H3
     cases g5:kr q.cU 1 1048576
     ·rw [g5] at H4
      have hfin:aQ q=false:=by simp [aQ,g1,g2,g3,g4,g5]
      rw [hfin];clear hfin HP HC HR g1 g3 g4 g5
      go_enter Tryz.func16,Tryz.ntmps16
      go_wp2_with fail
      refine (H1.out _).mono ?_
      rintro e w' ⟨rfl,rfl⟩
      go_wp2_with fail
      refine (H2.out _).mono ?_
      rintro e w' ⟨rfl,rfl⟩
      go_wp2_with fail
      refine (H3.out _).mono ?_
      rintro e w' ⟨rfl,rfl⟩
      go_wp2_with fail
      refine (H4.out _).mono ?_
      rintro e w' ⟨rfl,rfl⟩
      go_wp2_with fail
      go_ret
      exact aq rfl rfl (HB.out _)
     ·rw [g5] at H4
      cases g6:q.ao.all aR
      ·rw [g6] at HP
       have hfin:aQ q=false:=by simp only [aQ,g1,g3,g4,g5,g6,decide_eq_true g2,Kh,Bool.and_false,Bool.false_and]
       rw [hfin];clear hfin HC HR g1 g3 g4 g5 g6
       go_enter Tryz.func16,Tryz.ntmps16
       go_wp2_with fail
       refine (H1.out _).mono ?_
       rintro e w' ⟨rfl,rfl⟩
       go_wp2_with fail
       refine (H2.out _).mono ?_
       rintro e w' ⟨rfl,rfl⟩
       go_wp2_with fail
       refine (H3.out _).mono ?_
       rintro e w' ⟨rfl,rfl⟩
       go_wp2_with fail
       refine (H4.out _).mono ?_
       rintro e w' ⟨rfl,rfl⟩
       go_wp2_with fail
       refine (HP.out _ (HB.out _)).mono ?_
       rintro e w1 ⟨rfl,hb1⟩
       obtain ⟨hc1,hf1⟩:=az hb1
       have hz1x0:w.heap.size<w1.heap.size:=by have:=hb1.size;first|omega|(simp at this;omega)
       go_wp2_with fail
       go_ret
       exact aq rfl rfl (aa (HB.out _) hb1)
      ·rw [g6] at HP
       cases g7:q.conds.all bU
       ·rw [g7] at HC
        have hfin:aQ q=false:=by simp only [aQ,g1,g3,g4,g5,g6,g7,decide_eq_true g2,Kh,Bool.and_false,Bool.false_and]
        rw [hfin];clear hfin HR g1 g3 g4 g5 g6 g7
        go_enter Tryz.func16,Tryz.ntmps16
        go_wp2_with fail
        refine (H1.out _).mono ?_
        rintro e w' ⟨rfl,rfl⟩
        go_wp2_with fail
        refine (H2.out _).mono ?_
        rintro e w' ⟨rfl,rfl⟩
        go_wp2_with fail
        refine (H3.out _).mono ?_
        rintro e w' ⟨rfl,rfl⟩
        go_wp2_with fail
        refine (H4.out _).mono ?_
        rintro e w' ⟨rfl,rfl⟩
        go_wp2_with fail
        refine (HP.out _ (HB.out _)).mono ?_
        rintro e w1 ⟨rfl,hb1⟩
        obtain ⟨hc1,hf1⟩:=az hb1
        have hz1x0:w.heap.size<w1.heap.size:=by have:=hb1.size;first|omega|(simp at this;omega)
        go_wp2_with fail
        refine (HC.out _ (aa (HB.out _) hb1)).mono ?_
        rintro e w2 ⟨rfl,hb2⟩
        obtain ⟨hc2,hf2⟩:=az hb2
        have hz2x0:w.heap.size<w2.heap.size:=by have:=hb2.size;first|omega|(simp at this;omega)
        go_wp2_with fail
        go_ret
        exact aq rfl rfl (aa (aa (HB.out _) hb1) hb2)
       ·rw [g7] at HC
        have hfin:aQ q=q.ret.all cq:=by simp only [aQ,g1,g3,g4,g5,g6,g7,decide_eq_true g2,Kh,Bool.true_and]
        rw [hfin];clear hfin g1 g3 g4 g5 g6 g7
        go_enter Tryz.func16,Tryz.ntmps16
        go_wp2_with fail
        refine (H1.out _).mono ?_
        rintro e w' ⟨rfl,rfl⟩
        go_wp2_with fail
        refine (H2.out _).mono ?_
        rintro e w' ⟨rfl,rfl⟩
        go_wp2_with fail
        refine (H3.out _).mono ?_
        rintro e w' ⟨rfl,rfl⟩
        go_wp2_with fail
        refine (H4.out _).mono ?_
        rintro e w' ⟨rfl,rfl⟩
        go_wp2_with fail
        refine (HP.out _ (HB.out _)).mono ?_
        rintro e w1 ⟨rfl,hb1⟩
        obtain ⟨hc1,hf1⟩:=az hb1
        have hz1x0:w.heap.size<w1.heap.size:=by have:=hb1.size;first|omega|(simp at this;omega)
        go_wp2_with fail
        refine (HC.out _ (aa (HB.out _) hb1)).mono ?_
        rintro e w2 ⟨rfl,hb2⟩
        obtain ⟨hc2,hf2⟩:=az hb2
        have hz2x0:w.heap.size<w2.heap.size:=by have:=hb2.size;first|omega|(simp at this;omega)
        go_wp2_with fail
        refine (HR.out _ (aa (aa (HB.out _) hb1) hb2)).mono ?_
        rintro e w3 ⟨rfl,hb3⟩
        obtain ⟨hc3,hf3⟩:=az hb3
        have hz3x0:w.heap.size<w3.heap.size:=by have:=hb3.size;first|omega|(simp at this;omega)
        go_wp2_with fail
        go_ret
        exact aq rfl rfl (aa (aa (aa (HB.out _) hb1) hb2) hb3)
  ·have hfin:aQ q=false:=by simp [aQ,g1,g2]
   rw [hfin];clear hfin H2 H3 H4 HP HC HR g1
   go_enter Tryz.func16,Tryz.ntmps16
   go_wp2_with fail
   refine (H1.out _).mono ?_
   rintro e w' ⟨rfl,rfl⟩
   go_wp2_with fail
   go_ret
   exact aq rfl rfl (HB.out _)
theorem uQ (q:dF) (hq:q.ok):ai Tryz.prog 16 [.agg (bI q)] (.v (.bool (aQ q))):=
 .fq (by kernel_rfl) (by simp only [bB,AV.wf,ff,Km]) (fun D nu w vargs h=>by
  obtain ⟨x,rfl,hx⟩:=gV h
  obtain ⟨cx,rfl,kx⟩:=iV hx
  exact kE q cx w kx hq)
theorem vg (q:dF) (hN:q.ao.length≤400000):ai Tryz.prog 25 [.agg (bI q)] (aB (aA (ba q.ao))):=
 .xy (by kernel_rfl) (by simp only [bB,AV.wf,ff,Km]) (fun D nu w vargs h=>by
  obtain ⟨x,rfl,hx⟩:=gV h
  obtain ⟨cx,rfl,kx⟩:=iV hx
  exact lj q cx w kx hN)
theorem Cb (q:dF) (hN:q.ao.length≤400000):ai Tryz.prog 27 [.agg (bI q)] (aB (aA (bl q.ao))):=
 .xy (by kernel_rfl) (by simp only [bB,AV.wf,ff,Km]) (fun D nu w vargs h=>by
  obtain ⟨x,rfl,hx⟩:=gV h
  obtain ⟨cx,rfl,kx⟩:=iV hx
  exact rE q cx w kx hN)
theorem mR (xs ys:List ByteArray):ai Tryz.prog 24 [aB xs,aB ys] (.v (.bool (bT dr xs ys))):=
 .fq (by kernel_rfl) (by simp only [bB,aB,AV.wf,cu,Km]) (fun D nu w vargs h=>by
  obtain ⟨x,y,rfl,hx,hy⟩:=ja h
  exact g9 xs ys x y w (nH hx) (nH hy))
attribute [local go_sem] Oper.semAt_some
def j4 (s:ByteArray):cg:=⟨1,s,⟨#[]⟩,⟨0,0,⟨#[]⟩⟩⟩
def rB (s k:ByteArray):cg:=⟨2,s,k,⟨0,0,⟨#[]⟩⟩⟩
set_option maxRecDepth 100000 in
set_option maxHeartbeats 8000000 in
theorem sx (s:ByteArray) (w:World):Calls Tryz.prog 9 #[.string s] w (fU w (.agg (j4 s).cells.toArray)):=by
 go_enter Tryz.func9,Tryz.ntmps9
 go_wp2_with fail
 refine bodyPost_ret (v:= .agg (j4 s).cells.toArray) (by simp [results,Tryz.results9,go_sem,j4,cg.cells]) rfl ⟨rfl,(Below.refl _ _).alloc (IV _) _⟩
set_option maxRecDepth 100000 in
set_option maxHeartbeats 8000000 in
theorem vz (s k:ByteArray) (w:World):Calls Tryz.prog 5 #[.string s, .string k] w (fU w (.agg (rB s k).cells.toArray)):=by
 go_enter Tryz.func5,Tryz.ntmps5
 go_wp2_with fail
 refine bodyPost_ret (v:= .agg (rB s k).cells.toArray) (by simp [results,Tryz.results5,go_sem,rB,cg.cells]) rfl ⟨rfl,(Below.refl _ _).alloc (IV _) _⟩
def b1 (c:UInt8):ByteArray:=⟨#[c]⟩
def dg:dF:=⟨[⟨b1 97,b1 98,false,b1 120,b1 101, .mk 0 ⟨#[]⟩ []⟩,⟨b1 98,b1 99,true,⟨#[]⟩,⟨#[]⟩, .mk 4 ⟨#[]⟩ [.mk 1 (b1 121) []]⟩],[],[j4 (b1 97),rB (b1 101) (b1 107)],5,2⟩
def Spec.ao (xs:List cQ):Spec:=⟨fun v w=>cP w xs v,fun _ _ _ hb h=>bd hb h⟩
theorem DI (w:World) (a b c:Obj) {W0:World} (h:((w.alloc a).alloc b).alloc c=W0):W0.heap.size=w.heap.size+3∧W0.heap[w.heap.size]? = some a∧W0.heap[w.heap.size+1]? = some b∧W0.heap[w.heap.size+1+1]? = some c∧Below w.heap.size w W0:=by
 subst h
 have h1:(w.alloc a).heap.size=w.heap.size+1:=by simp
 have h2:((w.alloc a).alloc b).heap.size=w.heap.size+1+1:=by simp
 have h3:(((w.alloc a).alloc b).alloc c).heap.size=w.heap.size+1+1+1:=by simp
 have b2:Below (w.alloc a).heap.size (w.alloc a) ((w.alloc a).alloc b):=(Below.refl _ _).alloc (IV _) _
 have b3:Below ((w.alloc a).alloc b).heap.size ((w.alloc a).alloc b) (((w.alloc a).alloc b).alloc c):=(Below.refl _ _).alloc (IV _) _
 have g1:=aX w a
 have g2:=aX (w.alloc a) b
 have g3:=aX ((w.alloc a).alloc b) c
 rw [h1] at g2
 rw [h2] at g3
 refine ⟨h3, ?_, ?_,g3, ?_⟩
 ·rw [b3.block _ (by omega),b2.block _ (by omega)];exact g1
 ·rw [b3.block _ (by omega)];exact g2
 ·exact aa ((Below.refl _ _).alloc (IV _) _) (aa b2 b3)
theorem IQ {w:World} {b:Nat} {t:TypeId} {fz:Nat×Nat} (h:w.heap[b]? = some (.cells #[.int .i64 1, .string (b1 121), .slice none 0 0] t fz)):cm w [.mk 1 (b1 121) []] (.slice (some ⟨b,0,none⟩) 1 1):=by
 rw [cm]
 refine ⟨b,0,1,[.int .i64 1, .string (b1 121), .slice none 0 0],rfl,by simp,by unfold maxLen;omega, ?_, ?_,by rw [mU];trivial⟩
 ·rw [cf];exact ⟨_,rfl,by rw [cm];exact .inl (.inl rfl)⟩
 ·refine ⟨?_, ?_, ?_,trivial⟩<;>(rw [ag h];rfl)
theorem vJ {w:World} {g n:Nat} {t u:TypeId} {fz fy:Nat×Nat} (h:w.heap[g]? = some (.cells #[.string ⟨#[97]⟩, .string ⟨#[98]⟩, .bool false, .string ⟨#[120]⟩, .string ⟨#[101]⟩, .int .i64 0, .string ⟨#[]⟩, .slice none 0 0,
      .string ⟨#[98]⟩, .string ⟨#[99]⟩, .bool true, .string ⟨#[]⟩, .string ⟨#[]⟩, .int .i64 4, .string ⟨#[]⟩, .slice (some ⟨n,0,none⟩) 1 1] t fz)) (hy:w.heap[n]? = some (.cells #[.int .i64 1, .string (b1 121), .slice none 0 0] u fy)):cP w dg.ao (.slice (some ⟨g,0,none⟩) 2 2):=by
 refine jc h (fun p=>[.string p.aD, .string p.to, .bool p.path, .string p.label, .string p.name, .int .i64 p.expr.kind, .string p.expr.label,if p.path then .slice (some ⟨n,0,none⟩) 1 1 else .slice none 0 0]) ?_ (fun _ _=>rfl) rfl rfl (IV 2) (show 2≤maxLen by unfold maxLen;omega)
 intro p hp
 simp only [dg,List.mem_cons,List.not_mem_nil,or_false] at hp
 rcases hp with rfl|rfl
 ·exact ⟨_,_,_,_,rfl,by rw [cm];exact .inl (.inl rfl),rfl⟩
 ·exact ⟨_,_,_,_,rfl,IQ hy,rfl⟩
theorem yS {w:World} {g:Nat} {t:TypeId} {fz:Nat×Nat} (h:w.heap[g]? = some (.cells #[.int .i64 1, .string (b1 97), .string ⟨#[]⟩, .int .i64 0, .int .i64 0, .string ⟨#[]⟩, .int .i64 2, .string (b1 101), .string (b1 107), .int .i64 0, .int .i64 0, .string ⟨#[]⟩] t fz)) :
  gG w dg.ret (.slice (some ⟨g,0,none⟩) 2 2):=by
 refine jc (xs:=dg.ret) (sz:=6) (rd:=Dz) h cg.cells ?_ ?_ rfl rfl (IV 2) (show 2≤maxLen by unfold maxLen;omega)
 ·exact fun _ _=>rfl
 ·exact fun _ _=>rfl
def kD (n:Nat) (C:Array Value) (t:TypeId) (v:Value) (w:World):Prop:= ∃g,v = .slice (some ⟨g,0,none⟩) 2 2∧n≤g∧w.heap[g]? = some (.cells C t (0,0))
theorem kD.below {n:Nat} {C:Array Value} {t:TypeId} {v:Value} {w w':World} (hb:Below w.heap.size w w') (h:kD n C t v w):kD n C t v w':=by
 obtain ⟨g,h1,h2,h3⟩:=h
 exact ⟨g,h1,h2,(hb.block g (Array.getElem?_eq_some_iff.1 h3).1).trans h3⟩
def Spec.row (n:Nat) (C:Array Value) (t:TypeId):Spec:=⟨kD n C t,fun _ _ _ hb h=>h.below hb⟩
def Spec.two (n:Nat) (C D:Array Value) (t u:TypeId):Spec:=⟨fun v w=> ∃a b,v = .agg #[a, .slice none 0 0,b, .int .i64 5, .int .i64 2]∧kD n C t a w∧kD n D u b w,fun _ _ _ hb h=>by obtain ⟨a,b,h1,h2,h3⟩:=h;exact ⟨a,b,h1,h2.below hb,h3.below hb⟩⟩
theorem He {w:World} {k:Nat} {a b c d e:Value} {T:TypeId} {fz:Nat×Nat} (h:w.heap[k]? = some (.cells #[a,b,c,d,e] T fz)) (a' b' c' d' e':Value) {W:World}
  (hW:((((w.setCell ⟨k,0,none⟩ a').setCell ⟨k,1,none⟩ b').setCell ⟨k,2,none⟩ c').setCell ⟨k,3,none⟩ d').setCell ⟨k,4,none⟩ e'=W) {n:Nat} {w0:World} (hn:n≤k) (hb:Below n w0 w) :
  W.heap[k]? = some (.cells #[a',b',c',d',e'] T fz)∧(∀j,k≠j→W.heap[j]? = w.heap[j]?)∧Below n w0 W:=by
 subst hW
 refine ⟨by simp [World.setCell,JS,h],fun j hj=>by simp [World.setCell,JS,hj], ?_⟩
 exact ((((hb.setCell (p:=⟨k,0,none⟩) hn _).setCell (p:=⟨k,1,none⟩) hn _).setCell (p:=⟨k,2,none⟩) hn _).setCell (p:=⟨k,3,none⟩) hn _).setCell (p:=⟨k,4,none⟩) hn _
set_option maxRecDepth 100000 in
set_option maxHeartbeats 1000000 in
theorem vZ (w:World):Calls Tryz.prog 4 #[] w fun e w'=> ∃cx:List Value,e = .returned (.agg cx.toArray)∧eb w' dg cx∧Below w.heap.size w w':=by
 go_enter Tryz.func4,Tryz.ntmps4
 go_wp2_with fail
 generalize hW0:((w.alloc _).alloc _).alloc _=W0
 obtain ⟨hs,k0,k1,k2,hb⟩:=DI w _ _ _ hW0
 clear hW0
 refine qw [Spec.eq (.agg #[.string ⟨#[97]⟩, .string ⟨#[98]⟩, .bool false, .string ⟨#[120]⟩, .string ⟨#[101]⟩, .int .i64 0, .string ⟨#[]⟩, .slice none 0 0]),Spec.eq (.agg #[.int .i64 4, .string ⟨#[]⟩, .slice (some ⟨w.heap.size+1,0,none⟩) 1 1]),Spec.eq (.agg #[.string ⟨#[98]⟩, .string ⟨#[99]⟩, .bool true, .string ⟨#[]⟩, .string ⟨#[]⟩, .int .i64 4, .string ⟨#[]⟩, .slice (some ⟨w.heap.size+1,0,none⟩) 1 1]),Spec.row (w.heap.size+1) #[.string ⟨#[97]⟩, .string ⟨#[98]⟩, .bool false, .string ⟨#[120]⟩, .string ⟨#[101]⟩, .int .i64 0, .string ⟨#[]⟩, .slice none 0 0, .string ⟨#[98]⟩, .string ⟨#[99]⟩, .bool true, .string ⟨#[]⟩, .string ⟨#[]⟩, .int .i64 4, .string ⟨#[]⟩, .slice (some ⟨w.heap.size+1,0,none⟩) 1 1] 45,Spec.eq (.agg (j4 (b1 97)).cells.toArray),Spec.eq (.agg (rB (b1 101) (b1 107)).cells.toArray),Spec.row (w.heap.size+1) #[.int .i64 1, .string (b1 97), .string ⟨#[]⟩, .int .i64 0, .int .i64 0, .string ⟨#[]⟩, .int .i64 2, .string (b1 101), .string (b1 107), .int .i64 0, .int .i64 0, .string ⟨#[]⟩] 34,Spec.two (w.heap.size+1) #[.string ⟨#[97]⟩, .string ⟨#[98]⟩, .bool false, .string ⟨#[120]⟩, .string ⟨#[101]⟩, .int .i64 0, .string ⟨#[]⟩, .slice none 0 0, .string ⟨#[98]⟩, .string ⟨#[99]⟩, .bool true, .string ⟨#[]⟩, .string ⟨#[]⟩, .int .i64 4, .string ⟨#[]⟩, .slice (some ⟨w.heap.size+1,0,none⟩) 1 1] #[.int .i64 1, .string (b1 97), .string ⟨#[]⟩, .int .i64 0, .int .i64 0, .string ⟨#[]⟩, .int .i64 2, .string (b1 101), .string (b1 107), .int .i64 0, .int .i64 0, .string ⟨#[]⟩] 45 34] rfl (by kernel_rfl) ?_
 have K1: ∀wr,Below W0.drew.heap.size W0.drew wr→wr.heap[w.heap.size+1]? = some (.cells #[.int .i64 1, .string (b1 121), .slice none 0 0] 43 (0,0)):=fun wr hE=>(hE.block _ (show w.heap.size+1<W0.heap.size by omega)).trans k1
 have K2: ∀wr,Below W0.drew.heap.size W0.drew wr→wr.heap[w.heap.size+1+1]? = some (.cells #[.int .i64 4, .string ⟨#[]⟩, .slice (some ⟨w.heap.size+1,0,none⟩) 1 1] 43 (0,0)):=fun wr hE=>(hE.block _ (show w.heap.size+1+1<W0.heap.size by omega)).trans k2
 refine cj (fun x wr hE hD=> .inl ⟨rfl, ?_⟩) ?_
 ·clear hD
  go_simp
  exact ⟨rfl,Below.refl _ _⟩
 refine cj (fun x wr hE hD=> .inl ⟨rfl, ?_⟩) ?_
 ·clear hD
  have c0:=ag (K2 wr hE) 0
  have c1:=ag (K2 wr hE) 1
  have c2:=ag (K2 wr hE) 2
  simp only [Jg,Kd,KH] at c0 c1 c2
  have HK:=Lib.hid hE
  clear hE K1 K2 k0 k1 k2
  go_simp
  exact ⟨rfl,Below.refl _ _⟩
 refine cj (fun x wr hE hD=> .inl ⟨rfl, ?_⟩) ?_
 ·have h1:x 1=_:=hD 1 (by kernel_rfl)
  clear hD
  go_simp
  exact ⟨rfl,Below.refl _ _⟩
 refine cj (fun x wr hE hD=> .inl ⟨rfl, ?_⟩) ?_
 ·have h0:x 0=_:=hD 0 (by kernel_rfl)
  have h2:x 2=_:=hD 2 (by kernel_rfl)
  clear hD
  go_simp
  have hz:=hE.size
  simp only [World.drew] at hz
  refine mo (S:=Spec.row _ _ 45) ?_ ((Below.refl _ _).alloc (IV _) _)
  exact ⟨wr.heap.size,rfl,by omega,aX wr _⟩
 refine cj (fun x wr hE hD=> .inl ⟨rfl, ?_⟩) ?_
 ·clear hD
  go_simp
  refine (sx _ _).mono ?_
  rintro e w' ⟨rfl,hb'⟩
  exact ⟨_,rfl,rfl,hb'⟩
 refine cj (fun x wr hE hD=> .inl ⟨rfl, ?_⟩) ?_
 ·clear hD
  go_simp
  refine (vz _ _ _).mono ?_
  rintro e w' ⟨rfl,hb'⟩
  exact ⟨_,rfl,rfl,hb'⟩
 refine cj (fun x wr hE hD=> .inl ⟨rfl, ?_⟩) ?_
 ·have h4:x 4=_:=hD 4 (by kernel_rfl)
  have h5:x 5=_:=hD 5 (by kernel_rfl)
  clear hD
  simp only [j4,rB,cg.cells] at h4 h5
  go_simp
  have hz:=hE.size
  simp only [World.drew] at hz
  refine mo (S:=Spec.row _ _ 34) ?_ ((Below.refl _ _).alloc (IV _) _)
  exact ⟨wr.heap.size,rfl,by omega,aX wr _⟩
 refine cj (fun x wr hE hD=> .inl ⟨rfl, ?_⟩) ?_
 ·have h3:kD (w.heap.size+1) #[.string ⟨#[97]⟩, .string ⟨#[98]⟩, .bool false, .string ⟨#[120]⟩, .string ⟨#[101]⟩, .int .i64 0, .string ⟨#[]⟩, .slice none 0 0, .string ⟨#[98]⟩, .string ⟨#[99]⟩, .bool true, .string ⟨#[]⟩, .string ⟨#[]⟩, .int .i64 4, .string ⟨#[]⟩, .slice (some ⟨w.heap.size+1,0,none⟩) 1 1] 45 (x 3) wr:=hD 3 (by kernel_rfl)
  have h6:kD (w.heap.size+1) #[.int .i64 1, .string (b1 97), .string ⟨#[]⟩, .int .i64 0, .int .i64 0, .string ⟨#[]⟩, .int .i64 2, .string (b1 101), .string (b1 107), .int .i64 0, .int .i64 0, .string ⟨#[]⟩] 34 (x 6) wr:=hD 6 (by kernel_rfl)
  clear hD
  have h3':=h3
  have h6':=h6
  obtain ⟨g3,e3, -⟩:=h3'
  obtain ⟨g6,e6, -⟩:=h6'
  have HK:=Lib.hid hE
  clear hE K1 K2 k0 k1 k2
  rw [e3] at h3;rw [e6] at h6
  have H3:=Lib.hid h3;have H6:=Lib.hid h6
  clear h3 h6
  go_simp
  refine mo (S:=Spec.two _ _ _ 45 34) ?_ (Below.refl _ _)
  exact ⟨_,_,rfl,H3.out,H6.out⟩
 refine m9 (fun x wr hE hD=>⟨rfl, ?_⟩)
 have h7: ∃a b,x 7 = .agg #[a, .slice none 0 0,b, .int .i64 5, .int .i64 2]∧kD (w.heap.size+1) #[.string ⟨#[97]⟩, .string ⟨#[98]⟩, .bool false, .string ⟨#[120]⟩, .string ⟨#[101]⟩, .int .i64 0, .string ⟨#[]⟩, .slice none 0 0, .string ⟨#[98]⟩, .string ⟨#[99]⟩, .bool true, .string ⟨#[]⟩, .string ⟨#[]⟩, .int .i64 4, .string ⟨#[]⟩, .slice (some ⟨w.heap.size+1,0,none⟩) 1 1] 45 a wr∧kD (w.heap.size+1) #[.int .i64 1, .string (b1 97), .string ⟨#[]⟩, .int .i64 0, .int .i64 0, .string ⟨#[]⟩, .int .i64 2, .string (b1 101), .string (b1 107), .int .i64 0, .int .i64 0, .string ⟨#[]⟩] 34 b wr:=hD 7 (by omega)
 clear hD
 simp only [Act.put,List.setIfInBounds_toArray,List.set_cons_zero,List.set_cons_succ]
 obtain ⟨_,_,h7,⟨g3,rfl,m3,q3⟩,⟨g6,rfl,m6,q6⟩⟩:=h7
 have hz:wr.heap[w.heap.size]? = some (.cells #[.slice none 0 0, .slice none 0 0, .slice none 0 0, .int .i64 0, .int .i64 0] 26 (0,0)):=(hE.block _ (show w.heap.size<W0.heap.size by omega)).trans k0
 have d0:=ag hz 0
 have d1:=ag hz 1
 have d2:=ag hz 2
 have d3:=ag hz 3
 have d4:=ag hz 4
 have df:=bK hz
 simp only [Jg,Kd,KH] at d0 d1 d2 d3 d4
 have HY:=Lib.hid (K1 wr hE);have HQ3:=Lib.hid q3;have HQ6:=Lib.hid q6;have HZ:=Lib.hid hz
 have HB:=Lib.hid (show Below w.heap.size w wr from aa hb.drew hE)
 clear hb hE hz K1 K2 k0 k1 k2 q3 q6
 simp only [Nat.zero_add,Nat.reduceAdd,h7]
 unfold Oper.wp
 go_simp
 rename_i K hK
 refine hK _ _ ?_
 go_wp2_with fail
 generalize hW:World.setCell _ _ _=W
 obtain ⟨s1,s2,s3⟩:=He HZ.out _ _ _ _ _ hW (IV _) HB.out
 refine bodyPost_ret (v:= .agg #[.slice (some ⟨g3,0,none⟩) 2 2, .slice none 0 0, .slice (some ⟨g6,0,none⟩) 2 2, .int .i64 5, .int .i64 2]) (results_cell_row rfl _ _ w.heap.size 26 _ (0,0) _ rfl s1 rfl rfl (by kernel_rfl)) rfl ?_
 refine ⟨[.slice (some ⟨g3,0,none⟩) 2 2, .slice none 0 0, .slice (some ⟨g6,0,none⟩) 2 2, .int .i64 5, .int .i64 2],rfl,⟨_,_,_, ?_, .inl ⟨.inl rfl,rfl⟩, ?_,rfl⟩,s3⟩
 ·exact vJ ((s2 g3 (by omega)).trans HQ3.out) ((s2 _ (by omega)).trans HY.out)
 ·exact yS ((s2 g6 (by omega)).trans HQ6.out)
end Go.Proofs.YtldnlbcibmmbbaaGreat
