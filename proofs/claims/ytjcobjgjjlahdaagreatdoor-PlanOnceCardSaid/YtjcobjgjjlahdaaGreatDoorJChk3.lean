/- texts of one claim, one behind the other. -/
import Derived.Test.YtjcobjgjjlahdaaGreatDoorJEvery
import Derived.Test.YtjcobjgjjlahdaaGreatDoorJVerts
import Derived.Test.YtjcobjgjjlahdaaGreatDoorJAbsV
import Derived.Test.YtjcobjgjjlahdaaGreatDoorJAbsZ
import Derived.Sort.Grow
set_option linter.unusedSimpArgs false
set_option linter.unusedVariables false
set_option maxRecDepth 100000
set_option maxHeartbeats 16000000
open Bool renaming and_true -> SA, and_self -> Tg, not_eq_eq_eq_not -> Tn, true_and -> SD, false_eq_true -> SV
open List renaming getElem?_eq_some_iff -> Ra, getElem?_set_self -> Rx, getElem?_set_ne -> Rw, getElem?_eq_getElem -> Rp, mem_of_getElem? -> RK, drop_eq_getElem_cons -> Ss, length_cons -> Rg, length_nil -> Q9, replicate_succ -> Ti, replicate_zero -> Tj, cons_append -> Tl, nil_append -> Tm, foldl_cons -> SI, foldl_nil -> SL, take_succ_eq_append_getElem -> SR
open Array renaming getElem?_modify -> R7, getElem?_eq_getElem -> Ro, getElem?_eq_some_iff -> Q8
open Go.Sort renaming heap_ahead -> Th
open Nat renaming lt_or_ge -> Rc
open Int renaming natCast_inj -> To, ofNat_lt -> Tp, ofNat_le -> Tq
open Option renaming map_some -> RI
namespace Go.Proofs.YtjcobjgjjlahdaaGreatDoor
open Go.RowKit
section
theorem tQ (w:World):gL 78 [] bL w:=fun x k s l v W _ ho he hr=>xp x k s l v W ho he hr
theorem BX (w:World):gJ 80 [] dt w:=fun x W _ ho=>Eo x W ho
theorem BY (w:World):gK 82 [] eF w:=fun x W _ ho=>Gd x W ho
theorem rL (q:fg) (cx:List Value) (w:World) (hx:nQ w q cx) (ho:q.ok):Calls Tryz.prog 41 #[.agg cx.toArray] w (jW w (.bool (bt q))):=by
 obtain ⟨v1,v2,v3,r1,r2,r3,rfl⟩:=hx;obtain ⟨o1,o2,o3⟩:=ho;have H1:=Lib.hid (fun W=>gn (q.aj.length:Nat) 1 4 W);have H2:=Lib.hid (fun W=>gn (q.ret.length:Nat) 1 4 W);have H3:=Lib.hid (fun W=>gn q.range 1 1048576 W);have H4:=Lib.hid (fun W=>gn q.kz 1 1048576 W);have HP:=Lib.hid (fun W (hb:Below w.heap.size w W)=>Ey 78 bL q.aj v1 W (jE hb r1) o1 (tQ W) (enters_of Tryz.func78 (by kernel_rfl) rfl));have HC:=Lib.hid (fun W (hb:Below w.heap.size w W)=>Ev 80 dt q.conds v2 W (r2.below hb) o2 (BX W) (enters_of Tryz.func80 (by kernel_rfl) rfl));have HR:=Lib.hid (fun W (hb:Below w.heap.size w W)=>Ew 82 eF q.ret v3 W (r3.below hb) o3 (BY W) (enters_of Tryz.func82 (by kernel_rfl) rfl));have HB:=Lib.hid (fun ob=>((Below.refl w.heap.size w).alloc (Nat.le_refl _) ob));obtain ⟨p1,k1,rfl,l1,m1⟩:=r1.shape;obtain ⟨p2,k2,rfl,l2,m2⟩:=r2.shape;obtain ⟨p3,k3,rfl,l3,m3⟩:=r3.shape;unfold maxLen at m1 m2 m3;clear r1 r2 r3 o1 o2 o3
 cases g1:nj (q.aj.length:Nat) 1 4
 ·rw [g1] at H1
  have hfin:bt q=false:=by simp [bt,g1]
  rw [hfin];clear hfin H2 H3 H4 HP HC HR g1
  go_enter Tryz.func41,Tryz.ntmps41
  go_wp2_with fail
  refine (H1.out _).mono ?_;rintro e w' ⟨rfl,rfl⟩
  go_wp2_with fail
  go_ret
  exact aG rfl rfl (HB.out _)
 ·rw [g1] at H1
  by_cases g2:q.conds.length<=6
  ·cases g3:nj (q.ret.length:Nat) 1 4
   ·rw [g3] at H2
    have hfin:bt q=false:=by simp [bt,g1,g2,g3]
    rw [hfin];clear hfin H3 H4 HP HC HR g1 g3
    go_enter Tryz.func41,Tryz.ntmps41
    go_wp2_with fail
    refine (H1.out _).mono ?_;rintro e w' ⟨rfl,rfl⟩
    go_wp2_with fail
    refine (H2.out _).mono ?_;rintro e w' ⟨rfl,rfl⟩
    go_wp2_with fail
    go_ret
    exact aG rfl rfl (HB.out _)
   ·rw [g3] at H2
    cases g4:nj q.range 1 1048576
    ·rw [g4] at H3
     have hfin:bt q=false:=by simp [bt,g1,g2,g3,g4]
     rw [hfin];clear hfin H4 HP HC HR g1 g3 g4
     go_enter Tryz.func41,Tryz.ntmps41
     go_wp2_with fail
     refine (H1.out _).mono ?_;rintro e w' ⟨rfl,rfl⟩
     go_wp2_with fail
     refine (H2.out _).mono ?_;rintro e w' ⟨rfl,rfl⟩
     go_wp2_with fail
     refine (H3.out _).mono ?_;rintro e w' ⟨rfl,rfl⟩
     go_wp2_with fail
     go_ret
     exact aG rfl rfl (HB.out _)
    ·rw [g4] at H3
     cases g5:nj q.kz 1 1048576
     ·rw [g5] at H4
      have hfin:bt q=false:=by simp [bt,g1,g2,g3,g4,g5]
      rw [hfin];clear hfin HP HC HR g1 g3 g4 g5
      go_enter Tryz.func41,Tryz.ntmps41
      go_wp2_with fail
      refine (H1.out _).mono ?_;rintro e w' ⟨rfl,rfl⟩
      go_wp2_with fail
      refine (H2.out _).mono ?_;rintro e w' ⟨rfl,rfl⟩
      go_wp2_with fail
      refine (H3.out _).mono ?_;rintro e w' ⟨rfl,rfl⟩
      go_wp2_with fail
      refine (H4.out _).mono ?_;rintro e w' ⟨rfl,rfl⟩
      go_wp2_with fail
      go_ret
      exact aG rfl rfl (HB.out _)
     ·rw [g5] at H4
      cases g6:q.aj.all bL
      ·rw [g6] at HP
       have hfin:bt q=false:=by simp only [bt,g1,g3,g4,g5,g6,decide_eq_true g2,SA,Bool.and_false,Bool.false_and]
       rw [hfin];clear hfin HC HR g1 g3 g4 g5 g6
       go_enter Tryz.func41,Tryz.ntmps41
       go_wp2_with fail
       refine (H1.out _).mono ?_;rintro e w' ⟨rfl,rfl⟩
       go_wp2_with fail
       refine (H2.out _).mono ?_;rintro e w' ⟨rfl,rfl⟩
       go_wp2_with fail
       refine (H3.out _).mono ?_;rintro e w' ⟨rfl,rfl⟩
       go_wp2_with fail
       refine (H4.out _).mono ?_;rintro e w' ⟨rfl,rfl⟩
       go_wp2_with fail
       refine (HP.out _ (HB.out _)).mono ?_;rintro e w1 ⟨rfl,hb1⟩;obtain ⟨hc1,hf1⟩:=bO hb1
       have hz1x0:w.heap.size<w1.heap.size:=by have:=hb1.size;first|omega|(simp at this;omega)
       go_wp2_with fail
       go_ret
       exact aG rfl rfl (ae (HB.out _) hb1)
      ·rw [g6] at HP
       cases g7:q.conds.all dt
       ·rw [g7] at HC
        have hfin:bt q=false:=by simp only [bt,g1,g3,g4,g5,g6,g7,decide_eq_true g2,SA,Bool.and_false,Bool.false_and]
        rw [hfin];clear hfin HR g1 g3 g4 g5 g6 g7
        go_enter Tryz.func41,Tryz.ntmps41
        go_wp2_with fail
        refine (H1.out _).mono ?_;rintro e w' ⟨rfl,rfl⟩
        go_wp2_with fail
        refine (H2.out _).mono ?_;rintro e w' ⟨rfl,rfl⟩
        go_wp2_with fail
        refine (H3.out _).mono ?_;rintro e w' ⟨rfl,rfl⟩
        go_wp2_with fail
        refine (H4.out _).mono ?_;rintro e w' ⟨rfl,rfl⟩
        go_wp2_with fail
        refine (HP.out _ (HB.out _)).mono ?_;rintro e w1 ⟨rfl,hb1⟩;obtain ⟨hc1,hf1⟩:=bO hb1
        have hz1x0:w.heap.size<w1.heap.size:=by have:=hb1.size;first|omega|(simp at this;omega)
        go_wp2_with fail
        refine (HC.out _ (ae (HB.out _) hb1)).mono ?_;rintro e w2 ⟨rfl,hb2⟩;obtain ⟨hc2,hf2⟩:=bO hb2
        have hz2x0:w.heap.size<w2.heap.size:=by have:=hb2.size;first|omega|(simp at this;omega)
        go_wp2_with fail
        go_ret
        exact aG rfl rfl (ae (ae (HB.out _) hb1) hb2)
       ·rw [g7] at HC
        have hfin:bt q=q.ret.all eF:=by simp only [bt,g1,g3,g4,g5,g6,g7,decide_eq_true g2,SA,Bool.true_and]
        rw [hfin];clear hfin g1 g3 g4 g5 g6 g7
        go_enter Tryz.func41,Tryz.ntmps41
        go_wp2_with fail
        refine (H1.out _).mono ?_;rintro e w' ⟨rfl,rfl⟩
        go_wp2_with fail
        refine (H2.out _).mono ?_;rintro e w' ⟨rfl,rfl⟩
        go_wp2_with fail
        refine (H3.out _).mono ?_;rintro e w' ⟨rfl,rfl⟩
        go_wp2_with fail
        refine (H4.out _).mono ?_;rintro e w' ⟨rfl,rfl⟩
        go_wp2_with fail
        refine (HP.out _ (HB.out _)).mono ?_;rintro e w1 ⟨rfl,hb1⟩;obtain ⟨hc1,hf1⟩:=bO hb1
        have hz1x0:w.heap.size<w1.heap.size:=by have:=hb1.size;first|omega|(simp at this;omega)
        go_wp2_with fail
        refine (HC.out _ (ae (HB.out _) hb1)).mono ?_;rintro e w2 ⟨rfl,hb2⟩;obtain ⟨hc2,hf2⟩:=bO hb2
        have hz2x0:w.heap.size<w2.heap.size:=by have:=hb2.size;first|omega|(simp at this;omega)
        go_wp2_with fail
        refine (HR.out _ (ae (ae (HB.out _) hb1) hb2)).mono ?_;rintro e w3 ⟨rfl,hb3⟩;obtain ⟨hc3,hf3⟩:=bO hb3
        have hz3x0:w.heap.size<w3.heap.size:=by have:=hb3.size;first|omega|(simp at this;omega)
        go_wp2_with fail
        go_ret
        exact aG rfl rfl (ae (ae (ae (HB.out _) hb1) hb2) hb3)
  ·have hfin:bt q=false:=by simp [bt,g1,g2]
   rw [hfin];clear hfin H2 H3 H4 HP HC HR g1
   go_enter Tryz.func41,Tryz.ntmps41
   go_wp2_with fail
   refine (H1.out _).mono ?_;rintro e w' ⟨rfl,rfl⟩
   go_wp2_with fail
   go_ret
   exact aG rfl rfl (HB.out _)
theorem xM (q:fg) (hq:q.ok):ag Tryz.prog 41 [.agg (cd q)] (.v (.bool (bt q))):=
 .ki (by kernel_rfl) (by simp only [bn,AV.wf,vg,Tg]) (fun D nu w vargs h=>by
  obtain ⟨x,rfl,hx⟩:=dK h;obtain ⟨cx,rfl,kx⟩:=FM hx
  exact rL q cx w kx hq)
theorem zP (q:fg) (hN:q.aj.length<=400000):ag Tryz.prog 128 [.agg (cd q)] (aK (bz (aV q.aj))):=
 .uz (by kernel_rfl) (by simp only [bn,AV.wf,vg,Tg]) (fun D nu w vargs h=>by
  obtain ⟨x,rfl,hx⟩:=dK h;obtain ⟨cx,rfl,kx⟩:=FM hx
  exact vc q cx w kx hN)
theorem iH (xs ys:List ByteArray):ag Tryz.prog 13 [aK xs,aK ys] (.v (.bool (fy cf xs ys))):=
 .ki (by kernel_rfl) (by simp only [bn,aK,AV.wf,aA,Tg]) (fun D nu w vargs h=>by
  obtain ⟨x,y,rfl,hx,hy⟩:=mF h
  exact rJ xs ys x y w (uP hx) (uP hy))
section
variable {P:Program}
theorem bY {s:AS} {k i j:Nat} {ob:aa} {row:List AV} (T':TypeId) (z':Nat) (hz':0<z') (hk:s.o[k]? = some (some ob)) (hz:0<ob.z) (hr:ob.rows[i]? = some row) (hj:row[j]? = some (.v (.slice none 0 0))) :
  vA s (AS.mk s.t ((s.o++[some (aa.mk T' z' true [])]).set k (some { ob with rows:=ob.rows.set i (row.set j (.vec s.o.length 0)) })) s.y):=by
 intro f D nu a w hs
 have hv: ∀b,cW (Value.slice none 0 0)=some b->w.heap.size<=b:=fun b e=>by cases e
 have hp:=fq (nu:=nu) (o:=s.o) (ob:=⟨T',z',true,[]⟩) (Below.refl w.heap.size w) hv;have hro:=jC (ob:=⟨T',z',true,[]⟩) hs.ro (Below.refl _ _) hv (.inl ⟨rfl,rfl,rfl⟩);have hlt:=(Ra.1 hk).1
 have hk':(s.o++[some (⟨T',z',true,[]⟩:aa)])[k]? = some (some ob):=by rw [List.getElem?_append_left hlt];exact hk
 have hh:ob.hl=({ ob with rows:=ob.rows.set i (row.set j (.vec s.o.length 0)) }:aa).hl:=by simp [aa.hl]
 obtain ⟨g,cur,hb⟩: ∃g cur,rR D (dx nu s.o.length (.slice none 0 0)) (s.o++[some ⟨T',z',true,[]⟩]) w k ob g cur:=by
  rcases hro.obj k ob hk' with ⟨_,e,_⟩|h|⟨g,es,cl,hm⟩
  ·rw [e] at hr;simp at hr
  ·exact h
  ·have:=hm.z;omega
 have hm:=jf (nu:=dx nu s.o.length (.slice none 0 0)) (o:=s.o++[some ⟨T',z',true,[]⟩]) (w:=w) (w':=w) (ob':={ ob with rows:=ob.rows.set i (row.set j (.vec s.o.length 0)) }) hk' hh.symm hb.bJ rfl rfl rfl rfl (fun _ _=>rfl);refine ⟨dx nu s.o.length (.slice none 0 0),hp.trans hm,rfl, ?_,(hs.tm.mono hp (fun _ _ h=>h)).mono hm (fun _ _ h=>h),hs.gG⟩;have hil:=(Ra.1 hr).1;have hjl:=(Ra.1 hj).1
 have key: ∀(i' j':Nat) r c,(ob.rows.set i (row.set j (.vec s.o.length 0)))[i']? = some r->r[j']? = some c-> ∃r0 c0,ob.rows[i']? = some r0∧r0[j']? = some c0∧(c=c0∨(c = .vec s.o.length 0∧c0 = .v (.slice none 0 0))):=by
  intro i' j' r c h1 h2
  by_cases hi:i=i'
  ·subst hi;rw [Rx hil] at h1;cases h1
   by_cases hj':j=j'
   ·subst hj';rw [Rx hjl] at h2;cases h2;exact ⟨row,_,hr,hj, .inr ⟨rfl,rfl⟩⟩
   ·rw [Rw hj'] at h2;exact ⟨row,c,hr,h2, .inl rfl⟩
  ·rw [Rw hi] at h1;exact ⟨r,c,h1,h2, .inl rfl⟩
 refine qT hro hk' hh.symm hb.bJ hm (fun _ _=>rfl) (cur:=cur) ⟨hb.blk,hb.kJ,fun hv'=> ?_,fun hv'=> ?_,hb.z,fun i' r hi'=> ?_,fun i' j' r c x h1 h2 h3=> ?_,fun i' j' r c x h1 h2 h3=> ?_⟩
 ·obtain ⟨q1,q2,q3⟩:=hb.box hv';exact ⟨q1,by simpa using q2,q3⟩
 ·obtain ⟨cap,q1,q2,q3,q4⟩:=hb.vec hv';exact ⟨cap,by simpa using q1,by simpa using q2,q3,q4⟩
 ·by_cases hi:i=i'
  ·subst hi;rw [Rx hil] at hi';cases hi';rw [List.length_set];exact hb.row i row hr
  ·rw [Rw hi] at hi';exact hb.row i' r hi'
 ·obtain ⟨r0,c0,k1,k2,e⟩:=key i' j' r c h1 h2;have h0:=hb.cell i' j' r0 c0 x k1 k2 h3
  rcases e with rfl|⟨rfl,rfl⟩
  ·exact h0.mono hm (fun _ _ h=>h)
  ·obtain rfl:=h0.cj
   have:=RA.vec (D:=D) (nu:=dx nu s.o.length (.slice none 0 0)) (o:=(s.o++[some (⟨T',z',true,[]⟩:aa)])) (w:=w) s.o.length 0 ⟨_,List.getElem?_concat_length,fun x hx=>Nat.zero_le _⟩ (by rw [aY];rfl)
   rw [aY] at this;exact this.mono hm (fun _ _ h=>h)
 ·obtain ⟨r0,c0,k1,k2,_⟩:=key i' j' r c h1 h2;exact hb.one i' j' r0 c0 x k1 k2 h3
end
theorem dR (xs:List ByteArray) (s:ByteArray):ag Tryz.prog 60 [aK xs, .v (.string s)] (.v (.bool (hasB xs s))):=
 .ki (by kernel_rfl) (by simp only [bn,aK,AV.wf,aA,Tg]) (fun D nu w vargs h=>by
  obtain ⟨x,y,rfl,hx,hy⟩:=mF h;obtain rfl:=hy.cj
  exact (jr xs x s w (uP hx)).mono (fun e w' ⟨h1,h2⟩=>⟨h1,h2 ▸ Below.refl _ _⟩))
def QB (l:List ByteArray):List (List AV):=l.map (fun s=>[.v (.string s)])
structure rm where
 d:Tmp
 k:Nat
 e:TypeId
 z:Nat
 n:Nat
 zc:List AV
 bx:Bool:=false
def rm.ob (m:rm):aa:=⟨m.e,m.z, !m.bx,List.replicate m.n m.zc⟩
def rm.av (m:rm) (id:Nat):AV:=if m.bx then .ptr id 0 m.z 0 0 else .vec id m.n
def rm.val (m:rm) (b cap:Nat):Value:=if m.bx then .pointer (some ⟨b,0,none⟩) else .slice (some ⟨b,0,none⟩) m.n cap
def Q0 (n0:Nat) (m:rm) (v:Value) (w:World):Prop:= ∃b cap cur,v=m.val b cap∧n0<=b∧w.heap[b]? = some (.cells cur m.e (0,0))∧m.n<=cap∧cap<=maxLen∧cur.size=cap * m.z∧0<m.z∧m.zc.length=m.z∧(m.bx=true->m.n=1∧cap=1) ∧
 ∀(i j:Nat) c x,i<m.n->m.zc[j]? = some c->cur[i * m.z+j]? = some x->c = .v x∧x.oneCell'=true
section
variable {D:Nat->Prop} {nu:Nat->Nat->Value} {o:List (Option aa)} {w:World} {P:Program}
def OC:List AV->Nat->List rm->List AV
 | t,_,[]=>t
 | t,N,m :: l=>OC (t.set m.d (m.av N)) (N+1) l
def uu (s:AS) (ms:List rm):AS:=⟨OC s.t s.o.length ms,s.o++ms.map (fun m=>some m.ob),s.y⟩
def AV.Ly:AV->AV
 | .v x=> .v x
 | .ptr a b c d e=> .ptr a b c d e
 | .vec a b=> .vec a b
 | .agg cs=>if AV.flat (.agg cs) then .agg cs else .undef
 | .iR _ (.v x)=> .v x
 | _=> .undef
theorem RA.Ly {D':Nat->Prop} {nu':Nat->Nat->Value} {o':List (Option aa)} {w':World} (hh: ∀id len,cw o id len->cw o' id len∧nu' id len=nu id len) {c:AV} {x:Value} (h:RA D nu o w c x):RA D' nu' o' w' c.Ly x:=by
 cases h with
 | v=>exact .v _
 | ptr id len z row off b h1 h2=>exact .ptr id len z row off b (hh _ _ h1).1 (by rw [(hh _ _ h1).2];exact h2)
 | vec id len h1 h2=>
  rw [<-(hh _ _ h1).2] at h2 ⊢;exact .vec id len (hh _ _ h1).1 h2
 | agg cs xs h1 h2 h3=>
  simp only [AV.Ly]
  split
  ·rename_i hf;exact (RA.agg cs xs h1 h2 h3:RA D nu o w _ _).flat hf
  ·exact .undef _
 | iR p a x S h0 h1 hc h2 h3=>
  cases a with
  | v y=>cases h3;exact .v _
  | _=>exact .undef _
 | _=>exact .undef _
def Ej:List Tmp->List AV->List AV
 | [],t=>t
 | d :: ds,t=>Ej ds (t.set d (t.getD d .undef).Ly)
def GK (P:Program) (T:TypeId) (n c:AV):Option (Prop×TypeId×Nat×Nat×List AV):=
 match P.underlying T,n,c with
 | some (.slice e), .v (.int _ l), .v (.int _ m)=>match iP P T,cJ P e with
  | some (_,z,bytes),some zr=>some (0<=l∧l<=m∧m.toNat * bytes<=140737488355328∧m.toNat<=140737488355328,e,z,l.toNat,zr)
  | _,_=>none
 | _,_,_=>none
def GH (P:Program) (T:TypeId):Option (Prop×TypeId×Nat×Nat×List AV):=
 match cJ P T with
 | some zr=>if 0<zr.length then some (True,T,zr.length,1,zr) else none
 | none=>none
def Gw (g:Option (Nat×Bool)) (d:Option Tmp) (N:Nat) (x:Option (Prop×TypeId×Nat×Nat×List AV)) (K:Tmp->TypeId->Nat->Nat->List AV->Prop):Prop:=match g,d,x with
 | none,some d,some (p,e,z,n,zc)=>(p∧d<N)∧K d e z n zc
 | _,_,_=>False
theorem DA (d N:Nat) (p:Prop) (e:TypeId) (z n:Nat) (zc:List AV) (K:Tmp->TypeId->Nat->Nat->List AV->Prop):Gw none (some d) N (some (p,e,z,n,zc)) K=((p∧d<N)∧K d e z n zc):=rfl
@[congr] theorem KN {g:Option (Nat×Bool)} {d:Option Tmp} {N N':Nat} {x x':Option (Prop×TypeId×Nat×Nat×List AV)} {K:Tmp->TypeId->Nat->Nat->List AV->Prop} (h:N=N') (k:x=x'):Gw g d N x K=Gw g d N' x' K:=by rw [h,k]
def eV (P:Program) (all tail:List Oper):List Oper->Nat->AS->List rm->List Tmp->(AS->Prop)->Prop
 | [],_,s,ms,ds,Q=>fe P all tail (uu ⟨Ej ds s.t,s.o,s.y⟩ ms) Q
 | oo :: rest,k,s,ms,ds,Q=>match oo.op with
  | .makeSlice T n c=>Gw oo.guard oo.dst s.t.length (GK P T (s.ev n) (s.ev c)) (fun d e z l zc=>eV P all tail rest (k+1) (s.put (some d) .undef s.o) (ms++[⟨d,k,e,z,l,zc,false⟩]) ds Q)
  | .alloc T=>Gw oo.guard oo.dst s.t.length (GH P T) (fun d e z l zc=>eV P all tail rest (k+1) (s.put (some d) .undef s.o) (ms++[⟨d,k,e,z,l,zc,true⟩]) ds Q)
  | _=>match oo.guard with
   | none=>dr P oo.op s (fun r=>eV P all tail rest (k+1) (s.put oo.dst r s.o) ms (oo.dst.toList++ds) Q)
   | some (j,want)=>ri (iw all s j) want (dr P oo.op s (fun r=>eV P all tail rest (k+1) (s.put oo.dst r s.o) ms (oo.dst.toList++ds) Q)) (eV P all tail rest (k+1) (s.put oo.dst (.v Go.undef) s.o) ms (oo.dst.toList++ds) Q)
structure Qu (l:List Oper) (s:AS) (a:Act) (k:Nat) (sk:AS) (rs:List (AV×Option rm)) (A:(Nat->Value)->Act) (ms:List rm) (ds:List Tmp):Prop extends Bc l s a k sk (rs.map Prod.fst) A where
 row: ∀m,m∈ms->m.k<k∧rs[m.k]? = some (.undef,some m)∧(∃oi,l[m.k]? = some oi∧oi.dst=some m.d)∧ ∀x,(A x).tmps[m.d]? = some (x m.k)
 Jp:(ms.map rm.k).Nodup
 QJ: ∀(i:Nat) r m,rs[i]? = some (r,some m)->r = .undef
 dst: ∀(i:Nat) (oi:Oper) d r,i<k->l[i]? = some oi->oi.dst=some d->rs[i]? = some (r,none)->d∈ds
theorem db {s:AS} (i id:Nat) {len:Nat} {ob:aa} (hi:s.t[i]? = some (.vec id len)) (ho:s.o[id]? = some (some ob)) (hv:ob.fw=true) (hl:ob.rows.length=len):vA s (AS.mk (s.t.set i (.aC ob.z ob.rows len)) (s.o.set id none) s.y):=by
 intro f D nu a w hs;have hm:=dH (nu:=nu) (o:=s.o) (w:=w) id;refine ⟨nu,hm,rfl,kL hs.ro id,⟨by simpa using hs.tm.len,fun j c x h1 h2=> ?_⟩,hs.gG⟩
 by_cases hij:i=j
 ·subst hij;rw [Rx (Ra.1 hi).1] at h1;cases h1;have hr:=hs.tm.at' i _ x hi h2;subst hl;cases hr;exact jL hs.ro ho hv
 ·rw [Rw hij] at h1;exact (hs.tm.at' j c x h1 h2).mono hm (fun _ _ h=>h)
theorem bD {n0 i:Nat} {ops:Array Oper} {d:Bool} {s:AS} {Q:aZ->AS->Prop} (h:cF P n0 (.region i ops d) s Q):cF P n0 (.region i ops d) s Q:=h
theorem Br {all tail rest:List Oper} {d:Tmp} {T ty:TypeId} {pos:String} {aft:Array Edge} {k:Nat} {s:AS} {ms:List rm} {ds:List Tmp} {Q:AS->Prop} (h:Gw none (some d) s.t.length (GH P T) (fun d e z l zc=>eV P all tail rest (k+1) (s.put (some d) .undef s.o) (ms++[⟨d,k,e,z,l,zc,true⟩]) ds Q)):eV P all tail (⟨some d, .alloc T,ty,pos,aft,none⟩ :: rest) k s ms ds Q:=h
theorem Bs {all tail rest:List Oper} {d:Tmp} {T ty:TypeId} {n c:Operand} {pos:String} {aft:Array Edge} {k:Nat} {s:AS} {ms:List rm} {ds:List Tmp} {Q:AS->Prop} (h:Gw none (some d) s.t.length (GK P T (s.ev n) (s.ev c)) (fun d e z l zc=>eV P all tail rest (k+1) (s.put (some d) .undef s.o) (ms++[⟨d,k,e,z,l,zc,false⟩]) ds Q)):eV P all tail (⟨some d, .makeSlice T n c,ty,pos,aft,none⟩ :: rest) k s ms ds Q:=h
theorem yw {all tail:List Oper} {k:Nat} {s:AS} {ms:List rm} {ds:List Tmp} {Q:AS->Prop} (h:fe P all tail (uu ⟨Ej ds s.t,s.o,s.y⟩ ms) Q):eV P all tail [] k s ms ds Q:=h
instance {all tail:List Oper} {k:Nat} {s:AS} {ms:List rm} {ds:List Tmp} {Q:AS->Prop}:af (eV P all tail [] k s ms ds Q) (fe P all tail (uu ⟨Ej ds s.t,s.o,s.y⟩ ms) Q):=⟨yw⟩
instance {all tail rest:List Oper} {d:Tmp} {T ty:TypeId} {n c:Operand} {pos:String} {aft:Array Edge} {k:Nat} {s:AS} {ms:List rm} {ds:List Tmp} {Q:AS->Prop}:af (eV P all tail (⟨some d, .makeSlice T n c,ty,pos,aft,none⟩ :: rest) k s ms ds Q)
 (Gw none (some d) s.t.length (GK P T (s.ev n) (s.ev c)) (fun d e z l zc=>eV P all tail rest (k+1) (s.put (some d) .undef s.o) (ms++[⟨d,k,e,z,l,zc,false⟩]) ds Q)):=⟨Bs⟩
instance {all tail rest:List Oper} {d:Tmp} {T ty:TypeId} {pos:String} {aft:Array Edge} {k:Nat} {s:AS} {ms:List rm} {ds:List Tmp} {Q:AS->Prop}:af (eV P all tail (⟨some d, .alloc T,ty,pos,aft,none⟩ :: rest) k s ms ds Q)
 (Gw none (some d) s.t.length (GH P T) (fun d e z l zc=>eV P all tail rest (k+1) (s.put (some d) .undef s.o) (ms++[⟨d,k,e,z,l,zc,true⟩]) ds Q)):=⟨Br⟩
end
attribute [go_sem] DA GH rm.av GK uu OC Ej AV.Ly AV.flat rm.ob Option.toList_some Option.toList_none
end
section
section
variable {D:Nat->Prop} {nu:Nat->Nat->Value} {o:List (Option aa)} {w:World} {P:Program}
def eu (o:List (Option aa)) (a r:AV):Prop:= ∀(D:Nat->Prop) (nu:Nat->Nat->Value) (w:World) (x:Value),RO D nu o w->RA D nu o w a x->RA D nu [] w r x
def oC (o:List (Option aa)):List AV->List AV->Prop
 | [],[]=>True
 | a :: l,b :: m=>eu o a b∧oC o l m
 | _,_=>False
theorem eu.of {a r:AV} (n:Nat) {p:Prop} (hz:gk o n a=some (p,r)) (hp:p):eu o a r:=fun _ _ _ x hro hra=>(iZ hro n).1 a x p r hz hp hra
theorem oC.at': ∀ {l m:List AV},oC o l m->l.length=m.length∧ ∀(i:Nat) a b,l[i]? = some a->m[i]? = some b->eu o a b
 | [],[],_=>⟨rfl,fun i a b h=>by simp at h⟩
 | a :: l,b :: m,h=>by
  obtain ⟨h1,h2⟩:=oC.at' h.2;refine ⟨by simp [h1],fun i x y k1 k2=> ?_⟩
  cases i with
  | zero=>simp at k1 k2;subst k1;subst k2;exact h.1
  | succ i=>exact h2 i x y (by simpa using k1) (by simpa using k2)
theorem oC.OE {l m:List AV} (h:oC o l m) (hro:RO D nu o w) {xs:Array Value} (hr:fX D nu o w l xs):fX D nu [] w m xs:=by
 obtain ⟨h1,h2⟩:=h.at';refine ⟨by rw [<-h1];exact hr.len,fun i c x q1 q2=> ?_⟩
 have hi:i<l.length:=by rw [h1];exact (Ra.1 q1).1
 exact h2 i _ c (Rp hi) q1 D nu w x hro (hr.at' i _ x (Rp hi) q2)
theorem eu.vp {cs cs':List AV} (h:oC o cs cs'):eu o (.vp cs) (.vp cs'):=fun D nu w x hro hra=>by
 obtain ⟨h1,h2⟩:=h.at'
 cases hra with
 | vp _ b off f k1 k2 k3 k4=>
  have get: ∀(j:Nat) c,cs'[j]? = some c-> ∃c0,cs[j]? = some c0:=fun j c hc=>⟨_,Rp (by rw [h1];exact (Ra.1 hc).1)⟩
  refine .vp _ b off f ⟨k1.1,ba _ _,k1.2.2⟩ (fun j c hc=> ?_) (fun j c hc=> ?_) (fun j c hc=> ?_)
  ·obtain ⟨c0,e⟩:=get j c hc;exact k2 j c0 e
  ·obtain ⟨c0,e⟩:=get j c hc;exact h2 j c0 c e hc D nu w _ hro (k3 j c0 e)
  ·obtain ⟨c0,e⟩:=get j c hc;exact k4 j c0 e
theorem eu.fn {g:FuncId} {fi fi' ca ca':List AV} (h:oC o fi fi') (k:oC o ca ca'):eu o (.fn g fi ca) (.fn g fi' ca'):=fun D nu w x hro hra=>by
 cases hra with
 | fn _ _ _ xf xc k1 k2 k3 k4=>
  have r1:=h.OE hro ⟨k1,k3⟩;have r2:=k.OE hro ⟨k2,k4⟩;exact .fn _ _ _ _ _ r1.len r2.len r1.at' r2.at'
def o8 (P:Program) (f:FuncId) (args:List AV) (r:AV):Prop:=(bn 0 args=true∧r.wf 0=true)∧dO P f=true∧ ∀D nu w vargs,RO D nu [] w->fX D nu [] w args vargs->Calls P f vargs w (fun e w'=> ∃v,e = .returned v∧Below w.heap.size w w'∧RA (fun b=>w.heap.size<=b) nu [] w' r v)
theorem o9.fresh {f:FuncId} {args args':List AV} {r:AV} (h:o8 P f args' r) (hz:oC o args args'):o9 P f args o r:=by
 refine ⟨h.2.1,fun D nu w vargs hro hra=> ?_⟩;have hra':=hz.OE hro hra;refine (h.2.2 (fun _=>True) nu w vargs (.nil _ _ _ (fun _ _=>trivial) (hro.gl.nil (fun _ _ _=>trivial))) ⟨hra'.len,fun i c x q1 q2=>(hra'.at' i c x q1 q2).mono (.refl _ _ _) (fun _ _ _=>trivial)⟩).mono ?_;rintro e w' ⟨v,rfl,hb,hx⟩;exact ⟨v,rfl,hb,hx.tr (n:=0) (fun b hf=>⟨hf.1,fun ho=>by have:=hro.aU ho;have:=hf.2.2;omega,hro.up b hf.2.2⟩) (fun id len hlt=>by omega) h.1.2⟩
theorem o8.MU {f:FuncId} {args:List AV} {r:AV} (h:o8 P f args r):ag P f args r:=by
 refine ⟨h.1,h.2.1,fun D nu w vargs hro hra=>(h.2.2 D nu w vargs hro hra).mono ?_⟩;rintro e w' ⟨v,rfl,hb,hx⟩;exact ⟨v,nu,[],r,rfl,aw hb,hro.below hb,hx.wider (fun b hb=>hro.up b hb),rfl,rfl⟩
def Gv (o:List (Option aa)) (r0 r:AV):Prop:= ∀(D:Nat->Prop) (nu:Nat->Nat->Value) (w:World) (x:Value),RO D nu o w->RA D nu o w r0 x->RA (owned nu o) nu [] w r x
theorem Gv.vec {id len:Nat} {ob:aa} (ho:o[id]? = some (some ob)) (hv:ob.fw=true) (hl:ob.rows.length=len) (hp: ∀row,row∈ob.rows-> ∀c,c∈row-> ∃x,c = .v x):Gv o (.vec id len) (.aC ob.z ob.rows len):=fun D nu w x hro hra=>by
 have hx:x=nu id len:=by
  cases hra with
  | vec=>rfl
 subst hx;subst hl;have hown: ∀b,dn (nu id ob.rows.length)=some b->owned nu o b:=fun b hb=>⟨id,ob,ho,by rw [aa.hl,hv,if_pos rfl];exact Af hb⟩;have h:=jL hro ho hv;generalize hq:nu id ob.rows.length=q at h hown ⊢;generalize ob.rows.length=n at h ⊢;generalize ob.rows=rows at h hp ⊢
 cases h with
 | bf=>exact .bf _
 | bC _ a=>exact .bC _ a
 | aC _ _ _ b off cap f k1 k2 k3 k4 k5 k6 k7 k8=>
  refine .aC _ _ _ b off cap f k1 k2 k3 (fun hne=>⟨(k4 hne).1,ba _ _,hown b rfl⟩) k5 k6 (fun i j row c q1 q2=> ?_) k8;obtain ⟨y,rfl⟩:=hp row (RK q1) c (RK q2);rw [(k7 i j row _ q1 q2).cj];exact .v y
theorem CU {α:Type} (f:α->List AV) (h: ∀x, ∀c∈f x, ∃y,c = .v y) (l:List α): ∀row,row∈l.map f-> ∀c,c∈row-> ∃y,c = .v y:=fun row hr=>by
 obtain ⟨x,_,rfl⟩:=List.mem_map.1 hr;exact h x
theorem o8.enter {f:FuncId} {fn:Func} {c:Code} {args:List AV} {r:AV} (hf:P.funcs[f]? = some fn) (hb:fn.body=some c) (hc:dO P f=true) (hok:b6 c=true) (hmx:P.follows .mixedOrders=true)
  (ha:bn 0 args=true) (hr:r.wf 0=true) (h:cF P 0 c ⟨args++List.replicate (fn.ntmps - args.length) .undef,[], .no⟩ (tu P fn.results.toList (fun r0 o=>Gv o r0 r))):o8 P f args r:=by
 obtain ⟨_,h2⟩:=gj.enter (o:=[]) hf hb hc hok hmx h;refine ⟨⟨ha,hr⟩,hc,fun D nu w vargs hro hra=>(h2 D nu w vargs hro hra).mono ?_⟩;rintro e w' ⟨v,nu',o',r0,rfl,hm,hro',hra',hz⟩;refine ⟨v,rfl,⟨hm.os,hm.tape,hm.output,hm.size,fun b hb=>(hm.keep b hb (ba _ _)).1⟩,(hz _ _ _ _ hro' hra').tr (n:=0) (fun b hf=>⟨hf.1,ba _ _, ?_⟩) (fun id len hlt=>by omega) hr⟩
 rcases Rc b w.heap.size with q|q
 ·exact absurd hf.2.2 (hm.keep b q (ba _ _)).2
 ·exact q
open Go.Sort in
theorem FG {α:Type} [Inhabited α] {enc:α->Value} {n blk:Nat} {d:Array α} {os:Array Obj} (hlt:blk<w.heap.size):(∀b,b<w.heap.size->b≠blk->(grow (putRow enc (Go.Sort.ahead w n) blk 0 d) os).heap[b]? = w.heap[b]?) ∧
  ∀cs T fr,w.heap[blk]? = some (.cells cs T fr)->(grow (putRow enc (Go.Sort.ahead w n) blk 0 d) os).heap[blk]? = some (.cells (putCells enc 0 d cs) T fr):=by
 refine ⟨fun b hb hne=> ?_,fun cs T fr h=> ?_⟩
 ·rw [heap_grow_old _ _ (by simpa using hb)];simp only [putRow,mapBlock,Th,R7,if_neg (Ne.symm hne)]
 ·rw [heap_grow_old _ _ (by simpa using hlt)];simp only [putRow,mapBlock,Th,R7,if_true,h,Option.map_some,onCells]
def b9 {α:Type} (enc:α->Value) (l:List α):List (List AV):=l.map (fun a=>[.v (enc a)])
open Go.Sort in
theorem Ce {α:Type} [Inhabited α] {enc:α->Value} {id:Nat} {ob:aa} {g:Nat} {cur:Array Value} {d:List α} (h:rR D nu o w id ob g cur) (hz:ob.z=1) (hr:ob.rows=b9 enc d):Holds enc w g 0 d.toArray:=fun j hj=>by
 have hj':j<d.length:=by simpa using hj
 have h1:ob.rows[j]? = some [.v (enc d[j])]:=by rw [hr];simp [b9,hj']
 have h2:=h.mg h1 (j:=0) (by simp);rw [hz] at h2;have h3:=h.cell j 0 _ _ _ h1 rfl (by rw [hz];exact Ro h2)
 refine ⟨?_, ?_⟩
 ·have e:w.cell? ⟨g,0+j,none⟩=cur[0+j]? :=by simp [World.cell?,h.blk]
  rw [e,show 0+j=j * 1+0 by omega,Ro h2,h3.cj];simp [hj']
 ·simp [World.frozen?,h.blk]
open Go.Sort in
theorem FU {α:Type} [Inhabited α] {enc:α->Value} (hone: ∀a,(enc a).oneCell'=true) (h:RO D nu o w) {id:Nat} {ob:aa} (ho:o[id]? = some (some ob)) (hv:ob.fw=true) (hz:ob.z=1) {d:List α} (hr:ob.rows=b9 enc d) {blk cap:Nat} (hnu:nu id ob.rows.length = .slice (some ⟨blk,0,none⟩) d.length cap)
  {n:Nat} {d':Array α} (hd:d'.size=d.length) {os:Array Obj} {k:Nat} (hk:k<=d.length) :
  b7 nu o w (dx nu o.length (.slice (some ⟨blk,0,none⟩) k cap)) (o.set id none++[some ⟨ob.T,1,true,b9 enc (d'.toList.take k)⟩]) (grow (putRow enc (Go.Sort.ahead w n) blk 0 d') os) ∧
   RO D (dx nu o.length (.slice (some ⟨blk,0,none⟩) k cap)) (o.set id none++[some ⟨ob.T,1,true,b9 enc (d'.toList.take k)⟩]) (grow (putRow enc (Go.Sort.ahead w n) blk 0 d') os):=by
 have hlen:ob.rows.length=d.length:=by rw [hr];simp [b9]
 obtain ⟨cur,hb⟩: ∃cur,rR D nu o w id ob blk cur:=by
  rcases h.obj id ob ho with ⟨e1,e2,e3⟩|⟨g,cur,hb⟩|⟨g,es,cl,hm⟩
  ·rw [e2] at hnu;rw [List.length_nil,e3] at hnu;cases hnu
  ·obtain ⟨cap',h1,_⟩:=hb.vec hv;rw [h1] at hnu;simp only [Value.slice.injEq,Option.some.injEq,Addr.mk.injEq] at hnu;obtain ⟨⟨rfl,_⟩,_⟩:=hnu;exact ⟨cur,hb⟩
  ·have:=hm.fw;rw [hv] at this;cases this
 have hlt:blk<w.heap.size:=(Q8.1 hb.blk).1;obtain ⟨hsame,hblk⟩:=FG (w:=w) (enc:=enc) (n:=n) (d:=d') (os:=os) hlt;have hblk:=hblk _ _ _ hb.blk;generalize hw':grow (putRow enc (Go.Sort.ahead w n) blk 0 d') os=w' at hsame hblk ⊢
 have hsz:w.heap.size<=w'.heap.size:=by rw [<-hw'];simp
 have hidl:=(Ra.1 ho).1
 have hl:(o.set id none).length=o.length:=by simp
 have hold: ∀id',id'<o.length->(o.set id none++[some (⟨ob.T,1,true,b9 enc (d'.toList.take k)⟩:aa)])[id']? = (o.set id none)[id']? :=fun id' h=>List.getElem?_append_left (by rw [hl];exact h)
 have hnew:(o.set id none++[some (⟨ob.T,1,true,b9 enc (d'.toList.take k)⟩:aa)])[o.length]? = some (some ⟨ob.T,1,true,b9 enc (d'.toList.take k)⟩):=by rw [<-hl,List.getElem?_concat_length]
 obtain ⟨cap',hc1,hc2,hc3,hc4⟩:=hb.vec hv
 have ecap:cap'=cap:=by
  rw [hc1] at hnu;simp only [Value.slice.injEq] at hnu;exact hnu.2.2
 subst ecap;have hbk:cW (nu id ob.hl)=some blk:=hb.bJ
 have hkl:(b9 enc (d'.toList.take k)).length=k:=by simp [b9];omega
 have hm:b7 nu o w (dx nu o.length (.slice (some ⟨blk,0,none⟩) k cap')) (o.set id none++[some ⟨ob.T,1,true,b9 enc (d'.toList.take k)⟩]) w':=by
  refine ⟨by rw [<-hw'];rfl,by rw [<-hw'];rfl,by rw [<-hw'];rfl,hsz,fun id' len hh=> ?_,fun b hbl hno=> ?_⟩
  ·have hlt':=gr hh;obtain ⟨x,h1,h2⟩:=hh;refine ⟨?_,bm hlt'⟩
   by_cases he:id=id'
   ·subst he;exact ⟨none,by rw [hold _ hlt',List.getElem?_set_self hidl],fun _ e=>by cases e⟩
   ·exact ⟨x,by rw [hold _ hlt',List.getElem?_set_ne he];exact h1,h2⟩
  ·have hne:b≠blk:=fun e=>hno ⟨id,ob,ho,by rw [e];exact hbk⟩;refine ⟨hsame b hbl hne,fun ⟨id',ob',h1,h2⟩=> ?_⟩
   rcases Rc id' o.length with q|q
   ·rw [hold _ q] at h1;rw [bm q] at h2;exact hno ⟨id',ob',(fC h1).1,h2⟩
   ·obtain rfl:id'=o.length:=by
     have:=(Ra.1 h1).1
     simp at this;omega
    rw [aY] at h2;cases h2;exact hne rfl
 refine ⟨hm,fun id' ob' h1=> ?_,fun b hbl=>h.up b (Nat.le_trans hsz hbl),fun i1 i2 b1 b2 b k1 k2 hne k3 k4=> ?_,h.gl.mono hm (fun _ _ h=>h)⟩
 ·rcases Rc id' o.length with q|q
  ·rw [hold _ q] at h1;obtain ⟨h2,h3⟩:=fC h1;have hne: ∀g,cW (nu id' ob'.hl)=some g->g≠blk:=fun g e e'=>h.sep id id' ob ob' blk ho h2 h3 hbk (by rw [<-e'];exact e)
   rcases h.obj id' ob' h2 with ⟨e1,e2,e3⟩|⟨g,c,hr'⟩|⟨g,es,cl,hmp⟩
   ·exact .inl ⟨e1,e2,by rw [bm q];exact e3⟩
   ·have hg:=(hsame g (h.aU ⟨id',ob',h2,hr'.bJ⟩) (hne g hr'.bJ)).trans hr'.blk;exact .inr (.inl ⟨g,c,hg,hr'.kJ,fun e=>by rw [bm q];exact hr'.box e,fun e=>by rw [bm q];exact hr'.vec e,hr'.z,hr'.row,fun i j row cc x q1 q2 q3=>(hr'.cell i j row cc x q1 q2 q3).mono hm (fun _ _ h=>h),hr'.one⟩)
   ·exact .inr (.inr ⟨g,es,cl,hmp.tr (hsame g (h.aU ⟨id',ob',h2,hmp.bJ⟩) (hne g hmp.bJ)) (fun h=>h) (bm q) (fun i j row c x _ _ hr=>hr.mono hm (fun _ _ h=>h))⟩)
  ·obtain rfl:id'=o.length:=by
    have:=(Ra.1 h1).1
    simp at this;omega
   rw [hnew] at h1;cases h1
   have row: ∀(i:Nat) r,(b9 enc (d'.toList.take k))[i]? = some r-> ∃hi:i<d'.size,i<k∧r=[.v (enc d'[i])]:=fun i r hi=>by
    have hik:=(Ra.1 hi).1;rw [hkl] at hik;refine ⟨by omega,hik, ?_⟩;simp only [b9,List.getElem?_map,List.getElem?_take,if_pos hik] at hi
    have hid:i<d'.size:=by omega
    rw [show d'.toList[i]? = some d'[i] by simp [hid]] at hi;simpa using hi.symm
   have cell: ∀(i j:Nat) r c x,(b9 enc (d'.toList.take k))[i]? = some r->r[j]? = some c->(putCells enc 0 d' cur)[i * 1+j]? = some x->c = .v x∧x.oneCell'=true:=fun i j r c x q1 q2 q3=>by
    obtain ⟨hi,hik,rfl⟩:=row i r q1
    cases j with
    | succ j=>simp at q2
    | zero=>
     simp at q2;subst q2;simp only [putCells,Array.getElem?_mapIdx,Nat.mul_one,Nat.add_zero,Nat.zero_le,true_and,Nat.zero_add,Nat.sub_zero] at q3
     have hic:i<cur.size:=by rw [hc4,hz];omega
     rw [Ro hic,Option.map_some,if_pos hi] at q3;cases q3;exact ⟨by rw [getElem!_pos d' i hi],hone _⟩
   refine .inr (.inl ⟨blk,putCells enc 0 d' cur,hblk,hb.kJ,fun e=>(by cases e),fun _=>⟨cap',by rw [aY,hkl],by rw [hkl];omega,hc3,by simp only [putCells,Array.size_mapIdx];rw [hc4,hz]⟩,Nat.one_pos,fun i r hi=> ?_,fun i j r c x q1 q2 q3=> ?_,fun i j r c x q1 q2 q3=> ?_⟩)
   ·obtain ⟨_,_,rfl⟩:=row i r hi;rfl
   ·rw [(cell i j r c x q1 q2 q3).1];exact .v x
   ·exact (cell i j r c x q1 q2 q3).2
 ·have side: ∀i1 i2 b1 b2,(o.set id none++[some (⟨ob.T,1,true,b9 enc (d'.toList.take k)⟩:aa)])[i1]? = some (some b1)->(o.set id none++[some (⟨ob.T,1,true,b9 enc (d'.toList.take k)⟩:aa)])[i2]? = some (some b2)->i1<o.length->o.length<=i2->cW (dx nu o.length (.slice (some ⟨blk,0,none⟩) k cap') i1 b1.hl)=some b->cW (dx nu o.length (.slice (some ⟨blk,0,none⟩) k cap') i2 b2.hl)=some b->False:=fun i1 i2 b1 b2 k1 k2 l1 l2 k3 k4=>by
   obtain rfl:i2=o.length:=by
    have:=(Ra.1 k2).1
    simp at this;omega
   rw [aY] at k4;cases k4;rw [hold _ l1] at k1;obtain ⟨h2,h3⟩:=fC k1;rw [bm l1] at k3;exact h.sep id i1 ob b1 _ ho h2 h3 hbk k3
  rcases Rc i1 o.length with l1|l1
  ·rcases Rc i2 o.length with l2|l2
   ·rw [hold _ l1] at k1;rw [hold _ l2] at k2;rw [bm l1] at k3;rw [bm l2] at k4;exact h.sep i1 i2 b1 b2 b (fC k1).1 (fC k2).1 hne k3 k4
   ·exact side i1 i2 b1 b2 k1 k2 l1 l2 k3 k4
  ·rcases Rc i2 o.length with l2|l2
   ·exact side i2 i1 b2 b1 k2 k1 l2 l1 k4 k3
   ·have e1:=(Ra.1 k1).1;have e2:=(Ra.1 k2).1;simp at e1 e2;omega
theorem bK.row {α:Type} [Inhabited α] {enc:α->Value} (hone: ∀a,(enc a).oneCell'=true) {f:FuncId} {args:List AV} {T:TypeId} {d:List α} {o1:List (Option aa)} {d':List α} {k:Nat} (hd:d'.length=d.length) (hk:k<=d.length) (hc:dO P f=true)
  (hcall: ∀D nu w vargs cap blk,RO D nu (some ⟨T,1,true,b9 enc d⟩ :: o1) w->fX D nu (some ⟨T,1,true,b9 enc d⟩ :: o1) w args vargs->Go.Sort.Holds enc w blk 0 d.toArray->blk<w.heap.size->nu 0 d.length = .slice (some ⟨blk,0,none⟩) d.length cap->d.length<=cap->cap<=maxLen->Calls P f (#[.slice (some ⟨blk,0,none⟩) d.length cap]++vargs) w (fun e w'=>e = .returned (.slice (some ⟨blk,0,none⟩) k cap)∧ ∃n os,w'=Go.Sort.grow (Go.Sort.putRow enc (Go.Sort.ahead w n) blk 0 d'.toArray) os))
  (hnil:d=[]-> ∀D nu w vargs,RO D nu (some ⟨T,1,true,b9 enc d⟩ :: o1) w->fX D nu (some ⟨T,1,true,b9 enc d⟩ :: o1) w args vargs->Calls P f (#[.slice none 0 0]++vargs) w (fun e w'=>e = .returned (.slice none 0 0)∧Below w.heap.size w w')) :
  bK P f (.vec 0 d.length :: args) (some ⟨T,1,true,b9 enc d⟩ :: o1) (.vec (o1.length+1) k) (none :: o1++[some ⟨T,1,true,b9 enc (d'.take k)⟩]):=by
 refine ⟨hc,fun D nu w vargs hro hra=> ?_⟩
 have hlen:(b9 enc d).length=d.length:=by simp [b9]
 obtain ⟨vl⟩:=vargs
 cases vl with
 | nil=>have:=hra.len;simp at this
 | cons x l=>
 have hx:=hra.at' 0 _ x rfl (by simp);have hxs:fX D nu (some ⟨T,1,true,b9 enc d⟩ :: o1) w args l.toArray:=⟨by have:=hra.len;simp at this;simpa using this,fun i c y h1 h2=>hra.at' (i+1) c y (by simpa using h1) (by simpa using h2)⟩
 have ev:(⟨x :: l⟩:Array Value) = #[x]++l.toArray:=by simp
 have hxq:x=nu 0 d.length:=by
  cases hx with
  | vec=>rfl
 have hob:(some ⟨T,1,true,b9 enc d⟩ :: o1)[0]? = some (some (⟨T,1,true,b9 enc d⟩:aa)):=rfl;rw [ev,hxq]
 rcases hro.obj 0 _ hob with ⟨_,e2,e3⟩|⟨g,cur,hb⟩|⟨g,es,cl,hm⟩
 ·have hdn:d=[]:=by simpa [b9] using e2
  have hk0:k=0:=by rw [hdn] at hk;simpa using hk
  have hn:=hnil hdn D nu w l.toArray hro hxs;subst hk0
  have e4:nu 0 d.length = .slice none 0 0:=by rw [hdn];exact e3
  rw [e4];refine hn.mono ?_;rintro e w' ⟨rfl,hbl⟩;have hkm:=dH (nu:=nu) (o:=some ⟨T,1,true,b9 enc d⟩ :: o1) (w:=w) 0;have hkr:=(kL hro 0);simp only [List.set_cons_zero] at hkm hkr
  have hv: ∀b,cW (Value.slice none 0 0)=some b->w.heap.size<=b:=fun b e=>by cases e
  have hpm:=fq (nu:=nu) (o:=none :: o1) (ob:=⟨T,1,true,[]⟩) hbl hv;have hpr:=jC (ob:=⟨T,1,true,[]⟩) hkr hbl hv (.inl ⟨rfl,rfl,rfl⟩);simp only [List.length_cons] at hpm hpr;refine ⟨_,_,_,_,rfl,hkm.trans hpm,hpr, ?_,rfl,by simp [b9]⟩
  have:=RA.vec (D:=D) (nu:=dx nu (o1.length+1) (.slice none 0 0)) (o:=(none :: o1++[some (⟨T,1,true,[]⟩:aa)])) (w:=w') (o1.length+1) 0 ⟨some ⟨T,1,true,[]⟩,by simp,fun _ _=>Nat.zero_le _⟩ (by rw [aY];rfl)
  rw [aY] at this;exact this
 ·obtain ⟨cap,h1,h2,h3,h4⟩:=hb.vec rfl;have hlen':(aa.mk T 1 true (b9 enc d)).rows.length=d.length:=hlen;rw [hlen'] at h1 h2;have hlt:g<w.heap.size:=(Q8.1 hb.blk).1;rw [show nu 0 d.length=_ from h1];refine (hcall D nu w l.toArray cap g hro hxs (Ce hb rfl rfl) hlt h1 h2 h3).mono ?_;rintro e w' ⟨rfl,n,os,rfl⟩;obtain ⟨hm,hr⟩:=FU (enc:=enc) hone hro hob rfl rfl (d:=d) rfl (blk:=g) (cap:=cap) (by rw [hlen'];exact h1) (n:=n) (d':=d'.toArray) (by simpa using hd) (os:=os) hk;simp only [List.set_cons_zero,List.length_cons] at hm hr;refine ⟨_,_,_,_,rfl,hm,hr, ?_,rfl,rfl⟩
  have:=RA.vec (D:=D) (nu:=dx nu (o1.length+1) (.slice (some ⟨g,0,none⟩) k cap)) (o:=(none :: o1++[some (⟨T,1,true,b9 enc (d'.take k)⟩:aa)])) (w:=Go.Sort.grow (Go.Sort.putRow enc (Go.Sort.ahead w n) g 0 d'.toArray) os) (o1.length+1) k ⟨some ⟨T,1,true,b9 enc (d'.take k)⟩,by simp,fun x hx=>by cases hx;simp [aa.hl,b9];omega⟩ (by rw [aY];rfl)
  rw [aY] at this;exact this
 ·have:=hm.fw;cases this
def DN (f:Nat->Nat) (n:Nat):List AV->List AV->Prop
 | [],[]=>True
 | a :: l,c :: m=>(c = .undef∨(a=c.bc f∧c.wf n=true))∧DN f n l m
 | _,_=>False
theorem vz {f:Nat->Nat} {n:Nat}: ∀ {l m:List AV},DN f n l m->l.length=m.length∧ ∀(i:Nat) c,m[i]? = some c->c = .undef∨(l[i]? = some (c.bc f)∧c.wf n=true)
 | [],[],_=>⟨rfl,fun i c h=>by simp at h⟩
 | a :: l,b :: m,h=>by
  obtain ⟨h1,h2⟩:=vz h.2;refine ⟨by simp [h1],fun i c hc=> ?_⟩
  cases i with
  | zero=>
   simp at hc;subst hc;rcases h.1 with e|⟨e,g⟩
   ·exact .inl e
   ·exact .inr ⟨by simp [e],g⟩
  | succ i=>simpa using h2 i c (by simpa using hc)
theorem D6 {s:AS} {c:Code} {Q:aZ->AS->Prop} (ids:List Nat) (t0:List AV) (o0:List (Option aa)) (hnd:ids.Nodup) (ho:ids.map (fun i=>s.o[i]?)=o0.map (fun x=>some (x.map (aa.bc (sig ids s.o.length)))))
  (hwo: ∀(k:Nat) ob,o0[k]? = some (some ob)->dA ids.length ob.rows=true) (ht:DN (sig ids s.o.length) ids.length s.t t0) (hok:b6 c=true) (h:cF P 0 c ⟨t0,o0,s.y⟩ Q):yc P 0 c s Q:=fun f m D nu a w hZr hn hm hs hmx R hO hR=>by
 obtain ⟨ro0,own0,fz0,hdr0,_⟩:=pW ids hs.ro hnd ho hwo
 have hlen:o0.length=ids.length:=by have:=congrArg List.length ho;simpa using this.symm
 generalize sig ids s.o.length=σ at *;have hD: ∀b,(D b∧ ¬(b<w.heap.size∧ ∃id ob,id∉ids∧s.o[id]? = some (some ob)∧cW (nu id ob.hl)=some b))->D b:=fun b h=>h.1;have ro1:=ro0.wider hD;obtain ⟨t1,t2⟩:=vz ht
 have hs0:RS f D (fun k len=>nu (σ k) len) ⟨t0,o0,s.y⟩ a w:=⟨ro1,⟨by rw [<-t1];exact hs.tm.len,fun i c x h1 h2=>by
  rcases t2 i c h1 with rfl|⟨e,g⟩
  ·exact .undef x
  ·exact ((hs.tm.at' i _ x e h2).xP (f:=σ) (n:=ids.length) fz0 hdr0 c g rfl).wider hD⟩,hs.gG⟩
 refine ib hmx m hZr hn c hok _ a w D _ f.Z Q R hO ?_ hs0 h hR
 
 have hoz: ∀b,owned nu s.o b-> ¬f.Z b:=fun b hb hz=>((m.mS hm).1 b hz).2 (hs.ro.fB hb)
 have m1:=m.step (D':=fun b=>D b∧ ¬owned nu s.o b) (nu':=nu) (o':=[]) (Z':=fun b=>f.Z b∨owned nu s.o b) (w':=w) hm hs.ro
  ⟨rfl,rfl,rfl,Nat.le_refl _,fun id len hlt _=>by simp at hlt,fun b _ _ _=>⟨rfl,ba _ _⟩⟩
  (.nil _ _ _ (fun b hb=>⟨hs.ro.up b hb,fun ho=>by have:=hs.ro.aU ho;omega⟩) (hs.ro.gl.keep fun b _ hno hd=>⟨rfl,ba _ _,hd,hno⟩))
  (fun c v hr hc=>hr.tr (n:=0) (fun b hf=>⟨hf.1,ba _ _,hf.2.2,hf.2.1⟩) (fun id len hlt=>by omega) hc)
  (fun b hb=> .inl hb.1) (fun b hb=>by by_cases ho:owned nu s.o b;exact .inr (.inr ho);exact .inl ⟨hb,ho⟩)
  (fun b hb=>by
   rcases hb with hz|ho
   ·exact ⟨((m.mS hm).1 b hz).1,fun hd=>((m.mS hm).1 b hz).2 hd.1, .inl hz⟩
   ·exact ⟨hs.ro.aU ho,fun hd=>hd.2 ho, .inr (.inl ho)⟩) (by simpa using hn)
 exact m.step m1 (.nil _ _ _ (fun b hb=>⟨hs.ro.up b hb,fun ho=>by have:=hs.ro.aU ho;omega⟩) (hs.ro.gl.keep fun b _ hno hd=>⟨rfl,ba _ _,hd,hno⟩))
  ⟨rfl,rfl,rfl,Nat.le_refl _,fun id len _ hh=>by obtain ⟨x,h1,_⟩:=hh;simp at h1,fun b _ _ hz=>⟨rfl,fun ho=>hz (.inr (own0 b ho))⟩⟩ ro1
  (fun c v hr hc=>hr.tr (n:=o0.length) (fun b hf=>⟨hf.1,fun ho=>hf.2.2.2 (own0 b ho),hf.2.2.1⟩) (fun id len hlt hh=>by obtain ⟨x,h1,_⟩:=hh;simp at h1) hc)
  (fun b hb=>by by_cases ho:owned nu s.o b;exact .inr (.inr ho);exact .inl ⟨hb,ho⟩) (fun b hb=> .inl hb.1)
  (fun b hz=>⟨((m.mS hm).1 b hz).1,((m.mS hm).1 b hz).2, .inl (.inl hz)⟩) (Nat.le_trans hn (Nat.zero_le _))
theorem GZ {id:Nat} {t:List AV} {o:List (Option aa)} {y:iQ} {ops:Array Oper} {d:Bool} {Q:aZ->AS->Prop} (ids:List Nat) (t0:List AV) (o0:List (Option aa)) (hnd:ids.Nodup) (ho:ids.map (fun i=>o[i]?)=o0.map (fun x=>some (x.map (aa.bc (sig ids o.length)))))
  (hwo: ∀(k:Nat) ob,o0[k]? = some (some ob)->dA ids.length ob.rows=true) (ht:DN (sig ids o.length) ids.length t t0) (hok:dP ops=true) (h:cF P 0 (.region id ops d) ⟨t0,o0,y⟩ Q):cF P 0 (.region id ops d) ⟨t,o,y⟩ Q:=by
 have:=D6 (P:=P) (s:=⟨t,o,y⟩) (c:= .region id ops d) ids t0 o0 hnd ho hwo ht hok h
 cases d
 ·exact .inr this
 ·exact .inr this
end
end
def uC (q:fg) (i:Nat):List (List AV):=((q.conds.drop i).flatMap (fun c=>[c.left,c.right])++q.ret).map (fun o=>[.agg (cz o)])
def w9 (q:fg) (i:Nat):List (List AV):=(q.ret.drop i).map (fun o=>[.agg (cz o)])
theorem Iu {q:fg} {i:Nat} (h:i<q.conds.length):uC q i=[.agg (cz q.conds[i].left)] :: [.agg (cz q.conds[i].right)] :: uC q (i+1):=by
 rw [uC,Ss h];rfl
theorem Fq (q:fg):uC q q.conds.length=w9 q 0:=by simp [uC,w9]
theorem Iv {q:fg} {i:Nat} (h:i<q.ret.length):w9 q i=[.agg (cz q.ret[i])] :: w9 q (i+1):=by
 rw [w9,Ss h];rfl
theorem Fs (q:fg):w9 q q.ret.length=[]:=by simp [w9]
theorem uB (q:fg) (h2:q.conds.length<=1000000) (h3:q.ret.length<=1000000):gy Tryz.prog 84 [.vp (cd q)] [] (uC q 0):=by
 (refine gy.enter Tryz.func84 rfl (by kernel_rfl) (by kernel_rfl) rfl (fun l=> ?_);simp only [Tryz.ntmps84,Tryz.results84,Rg,Q9,Nat.reduceAdd,Nat.reduceSub,Ti,Tj,Tl,Tm])
 obtain ⟨ps,cs,rs,ra,sl⟩:=q;simp only [cd] at *
 repeat (first|(with_reducible first|refine af.up ?_|refine fun (K:AK) hK=> ?_|(refine hK _ ?_;clear hK K))|simp only [go_sem]|with_reducible refine wA ?_|clear hK K)
 refine fl (ι:=Nat) 11 (fun i=>[(10, .v (.int .i64 i)),(4, .undef)]) (fun i=>[]) (fun i=> .run l (uC ⟨ps,cs,rs,ra,sl⟩ i)) (fun i=>cs.length - i) (fun i=>i<=cs.length) 0 (by omega) ?_ ?_
 ·(refine ak ?_ ?_ ?_<;>simp only [aR,SI,SL,Ti,Tj,aX,aW,AV.v.injEq,Value.int.injEq,Value.bool.injEq,Value.string.injEq,AV.vec.injEq,AV.ptr.injEq,true_or,or_true,false_or,or_false,aa.mk.injEq,forall_eq_apply_imp_iff,forall_eq,forall_eq',go_sem])
  rfl
 ·rintro i hi K hK
  repeat (first|(with_reducible first|refine af.up ?_|refine fun (K:AK) hK=> ?_|(refine hK _ ?_;clear hK K))|simp only [go_sem]|with_reducible refine wA ?_|clear hK K)
  refine cL.part (fun h=> ?_) (fun h=> ?_)
  ·have hlt:i<cs.length:=by (try simp only [bne_iff_ne,ne_eq,bne_eq_false_iff_eq,beq_iff_eq,beq_eq_false_iff_ne,decide_eq_true_eq,decide_eq_false_iff_not,Tn,To,Tp,Tq] at h);omega
   have eW:=aD (k:=i) (by omega);have eG:=getD_map aH cs i [] hlt;have eY:=Iu (q:=⟨ps,cs,rs,ra,sl⟩) hlt;simp only [aH] at eG;simp only [cz] at eY
   repeat' (first|(with_reducible first|refine af.up ?_|refine fun (K:AK) hK=> ?_|(refine hK _ ?_;clear hK K))|simp only [go_sem,eG,eW,eY,Go.undef]|with_reducible refine wA ?_|clear hK K|(with_reducible refine ab.one (by assumption) ?_)|(with_reducible refine aQ.one (by assumption) ?_)|(refine cL.part (fun hb=> ?_) (fun hb=> ?_)<;>simp only [hb,go_sem,eG,eW,eY,Go.undef])|(refine cL.part (fun hb=> ?_) (fun hb=> ?_))|(with_reducible refine dy.mk ?_ ?_))
   ·exact aM.mk (i+1) (by omega) (by omega) (by (refine ak ?_ ?_ ?_<;>simp only [aR,SI,SL,Ti,Tj,aX,aW,AV.v.injEq,Value.int.injEq,Value.bool.injEq,Value.string.injEq,AV.vec.injEq,AV.ptr.injEq,true_or,or_true,false_or,or_false,aa.mk.injEq,forall_eq_apply_imp_iff,forall_eq,forall_eq',go_sem]))
   ·exact .inr trivial
   ·exact .inr trivial
  ·have e1:i=cs.length:=by (try simp only [bne_iff_ne,ne_eq,bne_eq_false_iff_eq,beq_iff_eq,beq_eq_false_iff_ne,decide_eq_true_eq,decide_eq_false_iff_not,Tn,To,Tp,Tq] at h);omega
   have eY:=Fq ⟨ps,cs,rs,ra,sl⟩;simp only at eY;simp only [e1,eY]
   repeat (first|(with_reducible first|refine af.up ?_|refine fun (K:AK) hK=> ?_|(refine hK _ ?_;clear hK K))|simp only [go_sem]|with_reducible refine wA ?_|clear hK K)
   refine fl (ι:=Nat) 31 (fun i=>[(30, .v (.int .i64 i)),(5, .undef)]) (fun i=>[]) (fun i=> .run l (w9 ⟨ps,cs,rs,ra,sl⟩ i)) (fun i=>rs.length - i) (fun i=>i<=rs.length) 0 (by omega) ?_ ?_
   ·(refine ak ?_ ?_ ?_<;>simp only [aR,SI,SL,Ti,Tj,aX,aW,AV.v.injEq,Value.int.injEq,Value.bool.injEq,Value.string.injEq,AV.vec.injEq,AV.ptr.injEq,true_or,or_true,false_or,or_false,aa.mk.injEq,forall_eq_apply_imp_iff,forall_eq,forall_eq',go_sem])
    rfl
   ·rintro i hi K hK
    repeat (first|(with_reducible first|refine af.up ?_|refine fun (K:AK) hK=> ?_|(refine hK _ ?_;clear hK K))|simp only [go_sem]|with_reducible refine wA ?_|clear hK K)
    refine cL.part (fun h=> ?_) (fun h=> ?_)
    ·have hlt:i<rs.length:=by (try simp only [bne_iff_ne,ne_eq,bne_eq_false_iff_eq,beq_iff_eq,beq_eq_false_iff_ne,decide_eq_true_eq,decide_eq_false_iff_not,Tn,To,Tp,Tq] at h);omega
     have eW:=aD (k:=i) (by omega);have eG:=getD_map cz rs i [] hlt;have eY:=Iv (q:=⟨ps,cs,rs,ra,sl⟩) hlt;simp only [cz] at eG eY
     repeat' (first|(with_reducible first|refine af.up ?_|refine fun (K:AK) hK=> ?_|(refine hK _ ?_;clear hK K))|simp only [go_sem,eG,eW,eY,Go.undef]|with_reducible refine wA ?_|clear hK K|(with_reducible refine ab.one (by assumption) ?_)|(with_reducible refine aQ.one (by assumption) ?_)|(refine cL.part (fun hb=> ?_) (fun hb=> ?_)<;>simp only [hb,go_sem,eG,eW,eY,Go.undef])|(refine cL.part (fun hb=> ?_) (fun hb=> ?_))|(with_reducible refine dy.mk ?_ ?_))
     ·exact aM.mk (i+1) (by omega) (by omega) (by (refine ak ?_ ?_ ?_<;>simp only [aR,SI,SL,Ti,Tj,aX,aW,AV.v.injEq,Value.int.injEq,Value.bool.injEq,Value.string.injEq,AV.vec.injEq,AV.ptr.injEq,true_or,or_true,false_or,or_false,aa.mk.injEq,forall_eq_apply_imp_iff,forall_eq,forall_eq',go_sem]))
     ·exact .inr trivial
    ·have e1:i=rs.length:=by (try simp only [bne_iff_ne,ne_eq,bne_eq_false_iff_eq,beq_iff_eq,beq_eq_false_iff_ne,decide_eq_true_eq,decide_eq_false_iff_not,Tn,To,Tp,Tq] at h);omega
     have eY:=Fs ⟨ps,cs,rs,ra,sl⟩;simp only at eY;simp only [e1,eY]
     repeat (first|(with_reducible first|refine af.up ?_|refine fun (K:AK) hK=> ?_|(refine hK _ ?_;clear hK K))|simp only [go_sem]|with_reducible refine wA ?_|clear hK K)
     exact .inl trivial
theorem zi (q:fg):ag Tryz.prog 43 [.agg (cd q)] (.fn 84 [] [.vp (cd q)]):=by
 obtain ⟨ps,cs,rs,ra,sl⟩:=q;simp only [cd] at *
 (refine ag.enter Tryz.func43 rfl (by kernel_rfl) (by kernel_rfl) rfl (by first|rfl|(simp only [go_sem,Tg,SA,SD])) (by first|rfl|(simp only [go_sem,Tg,SA,SD])) ?_;simp only [Tryz.ntmps43,Tryz.results43,Rg,Q9,Nat.reduceAdd,Nat.reduceSub,Ti,Tj,Tl,Tm])
 repeat' (first|(with_reducible first|refine af.up ?_|refine fun (K:AK) hK=> ?_|(refine hK _ ?_;clear hK K))|simp only [go_sem]|clear hK K|(with_reducible refine ab.one (by assumption) ?_)|(with_reducible refine aQ.one (by assumption) ?_)|(refine cL.part (fun hb=> ?_) (fun hb=> ?_)<;>simp only [hb,go_sem])|(refine cL.part (fun hb=> ?_) (fun hb=> ?_))|(with_reducible refine dy.mk ?_ ?_))
 (refine kY.of 40 rfl ?_;simp only [go_sem])
theorem ET (o:dM):ag Tryz.prog 44 [.agg (cz o)] (.v (.int .i64 (ik o))):=by
 obtain ⟨kd,nm,ky,vl⟩:=o;simp only [cz] at *
 (refine ag.enter Tryz.func44 rfl (by kernel_rfl) (by kernel_rfl) rfl (by first|rfl|(simp only [go_sem,Tg,SA,SD])) (by first|rfl|(simp only [go_sem,Tg,SA,SD])) ?_;simp only [Tryz.ntmps44,Tryz.results44,Rg,Q9,Nat.reduceAdd,Nat.reduceSub,Ti,Tj,Tl,Tm])
 repeat' (first|(with_reducible first|refine af.up ?_|refine fun (K:AK) hK=> ?_|(refine hK _ ?_;clear hK K))|simp only [go_sem]|clear hK K|(with_reducible refine ab.one (by assumption) ?_)|(with_reducible refine aQ.one (by assumption) ?_)|(refine cL.part (fun hb=> ?_) (fun hb=> ?_)<;>simp only [hb,go_sem])|(refine cL.part (fun hb=> ?_) (fun hb=> ?_))|(with_reducible refine dy.mk ?_ ?_))
 all_goals (refine congrArg (Value.int .i64) ?_;simp_all [ik])
theorem xT (q:fg) (h1:q.aj.length<=400000):ag Tryz.prog 83 [.agg (cd q)] (.aC 1 ((bz (aV q.aj)).map encS) (bz (aV q.aj)).length):=by
 have C:=zP q h1;obtain ⟨ps,cs,rs,ra,sl⟩:=q;simp only [cd] at *
 (refine ag.enter Tryz.func83 rfl (by kernel_rfl) (by kernel_rfl) rfl (by first|rfl|(simp only [go_sem,Tg,SA,SD])) (by first|rfl|(simp only [go_sem,Tg,SA,SD])) ?_;simp only [Tryz.ntmps83,Tryz.results83,Rg,Q9,Nat.reduceAdd,Nat.reduceSub,Ti,Tj,Tl,Tm])
 repeat' (first|(with_reducible first|refine af.up ?_|refine fun (K:AK) hK=> ?_|(refine hK _ ?_;clear hK K))|simp only [go_sem]|clear hK K|(with_reducible refine ab.one (by assumption) ?_)|(with_reducible refine aQ.one (by assumption) ?_)|(refine cL.part (fun hb=> ?_) (fun hb=> ?_)<;>simp only [hb,go_sem])|(refine cL.part (fun hb=> ?_) (fun hb=> ?_))|(with_reducible refine dy.mk ?_ ?_))
 all_goals (refine kY.of 40 rfl ?_;simp only [go_sem])
def kg (l:List (ByteArray×Int)):List (List AV):=l.map (fun p=>[.v (.string p.1), .v (.int .i64 p.2)])
theorem yo (s:ByteArray): ∀l:List (ByteArray×Int),k9 .string (.string s) (kg l)=some ((uq l s).map (fun n=> .v (.int .i64 n)))
 | []=>rfl
 | p :: l=>by
  have ih:=yo s l;simp only [kg,List.map_cons,k9];rw [if_pos (show dj .string (.string p.1)=true from rfl)]
  by_cases h:dT (.string s) (.string p.1)=true
  ·have h':cf s p.1=true:=h;rw [if_pos h];simp [uq,h']
  ·have h':cf s p.1=false:=by
    cases hh:cf s p.1
    ·rfl
    ·exact absurd hh h
   rw [if_neg h];simp only [kg] at ih;rw [ih];simp [uq,h']
theorem yq (s:ByteArray) (n:Int): ∀l:List (ByteArray×Int),uq l s=none->lz .string (.string s) (.v (.int .i64 n)) (kg l)=some (kg (l++[(s,n)]))
 | [],_=>rfl
 | p :: l,hn=>by
  simp only [kg,List.map_cons,lz,Tl];rw [if_pos (show dj .string (.string p.1)=true from rfl)]
  by_cases h:dT (.string s) (.string p.1)=true
  ·have h':cf s p.1=true:=h;simp [uq,h'] at hn
  ·have h':cf s p.1=false:=by
    cases hh:cf s p.1
    ·rfl
    ·exact absurd hh h
   have ih:=yq s n l (by simpa [uq,h'] using hn);rw [if_neg h];simp only [kg] at ih;rw [ih];rfl
theorem J5 (s:ByteArray):(s.toList==(⟨#[]⟩:ByteArray).toList)=fb s:=by
 rw [Bool.eq_iff_iff,toList_inj];unfold fb;rw [decide_eq_true_iff]
 constructor
 ·rintro rfl;rfl
 ·intro h;obtain ⟨⟨l⟩⟩:=s
  cases l with
  | nil=>rfl
  | cons x l=>simp [ByteArray.size] at h
@[go_sem] theorem M8 (n:Nat) (l:List (ByteArray×Int)):dA n (kg l)=true:=bE _ (fun _=>rfl) l
def KV:Option (List ByteArray)->AV
 | none=> .dC [.v (.map none), .v (.bool false)]
 | some _=> .dC [.vec 1 0, .v (.bool true)]
def KU (vs:List ByteArray):Option (List ByteArray)->List (Option aa)
 | none=>[]
 | some ns=>[none,some ⟨93,0,false,kg (lh vs ns)⟩]
theorem Il (q:fg) (h1:q.aj.length<=400000):bK Tryz.prog 42 [.agg (cd q)] [] (KV (Ct (bz (aV q.aj)) q.aj)) (KU (bz (aV q.aj)) (Ct (bz (aV q.aj)) q.aj)):=by
 have C:=xT q h1;have hN:=Cx (aV q.aj)
 have hL:(bz (aV q.aj)).length<=800000:=by
  have:=sN (aV q.aj);have:=re q.aj;omega
 generalize bz (aV q.aj)=vs at *;obtain ⟨ps,cs,rs,ra,sl⟩:=q;simp only at h1 ⊢;simp only [cd] at *
 (refine bK.enter Tryz.func42 rfl (by kernel_rfl) (by kernel_rfl) rfl ?_;simp only [Tryz.ntmps42,Tryz.results42,Rg,Q9,Nat.reduceAdd,Nat.reduceSub,Ti,Tj,Tl,Tm])
 repeat' (first|(with_reducible first|refine af.up ?_|refine fun (K:AK) hK=> ?_|(refine hK _ ?_;clear hK K))|simp only [go_sem]|with_reducible refine wA ?_|clear hK K|(with_reducible refine ab.one (by assumption) ?_)|(with_reducible refine aQ.one (by assumption) ?_)|(refine cL.part (fun hb=> ?_) (fun hb=> ?_)<;>simp only [hb,go_sem])|(refine cL.part (fun hb=> ?_) (fun hb=> ?_))|(with_reducible refine dy.mk ?_ ?_))
 refine cV (ι:=Nat) 13 (fun i=>[(12, .v (.int .i64 i)),(5, .undef)]) (fun i=>[some ⟨26,5,false,[cd ⟨ps,cs,rs,ra,sl⟩]⟩,some ⟨93,0,false,kg (lh (vs.take i) [])⟩]) (fun i=>vs.length - i) (fun i=>i<=vs.length) 0 (by omega) ?_ ?_
 ·(refine ak ?_ ?_ ?_<;>simp only [aR,SI,SL,Ti,Tj,aX,aW,AV.v.injEq,Value.int.injEq,Value.bool.injEq,Value.string.injEq,AV.vec.injEq,AV.ptr.injEq,true_or,or_true,false_or,or_false,aa.mk.injEq,forall_eq_apply_imp_iff,forall_eq,forall_eq',go_sem])
  all_goals trivial
 ·rintro i hi K hK
  repeat (first|(with_reducible first|refine af.up ?_|refine fun (K:AK) hK=> ?_|(refine hK _ ?_;clear hK K))|simp only [go_sem]|with_reducible refine wA ?_|clear hK K)
  refine cL.part (fun h=> ?_) (fun h=> ?_)
  ·have hlt:i<vs.length:=by (try simp only [bne_iff_ne,ne_eq,bne_eq_false_iff_eq,beq_iff_eq,beq_eq_false_iff_ne,decide_eq_true_eq,decide_eq_false_iff_not,Tn,To,Tp,Tq] at h);omega
   have eW:=aD (k:=i) (by omega);have eG:=getD_map encS vs i [] hlt;have eS:=yq vs[i] 1 (lh (vs.take i) []) (J3 hN hlt);rw [<-J0 vs i hlt] at eS;simp only [encS] at eG
   repeat' (first|(with_reducible first|refine af.up ?_|refine fun (K:AK) hK=> ?_|(refine hK _ ?_;clear hK K))|simp only [go_sem,eG,eW,eS]|with_reducible refine wA ?_|clear hK K|(with_reducible refine ab.one (by assumption) ?_)|(with_reducible refine aQ.one (by assumption) ?_)|(refine cL.part (fun hb=> ?_) (fun hb=> ?_)<;>simp only [hb,go_sem,eG,eW,eS])|(refine cL.part (fun hb=> ?_) (fun hb=> ?_))|(with_reducible refine dy.mk ?_ ?_))
   exact aM.mk (i+1) (by omega) (by omega) (by (refine ak ?_ ?_ ?_<;>simp only [aR,SI,SL,Ti,Tj,aX,aW,AV.v.injEq,Value.int.injEq,Value.bool.injEq,Value.string.injEq,AV.vec.injEq,AV.ptr.injEq,true_or,or_true,false_or,or_false,aa.mk.injEq,forall_eq_apply_imp_iff,forall_eq,forall_eq',go_sem]))
  ·have e1:vs.take i=vs:=by rw [show i=vs.length by (try simp only [bne_iff_ne,ne_eq,bne_eq_false_iff_eq,beq_iff_eq,beq_eq_false_iff_ne,decide_eq_true_eq,decide_eq_false_iff_not,Tn,To,Tp,Tq] at h);omega,List.take_length]
   repeat (first|(with_reducible first|refine af.up ?_|refine fun (K:AK) hK=> ?_|(refine hK _ ?_;clear hK K))|simp only [go_sem,e1]|with_reducible refine wA ?_|clear hK K)
   refine cV (ι:=Nat×List ByteArray) 23 (fun i=>[(22, .v (.int .i64 i.1)),(5, .undef),(7, .undef)]) (fun i=>[some ⟨26,5,false,[cd ⟨ps,cs,rs,ra,sl⟩]⟩,some ⟨93,0,false,kg (lh vs i.2)⟩]) (fun i=>ps.length - i.1) (fun i=>i.1<=ps.length∧Ct vs (ps.take i.1)=some i.2) (0,[]) ⟨by simp,rfl⟩ ?_ ?_
   ·(refine ak ?_ ?_ ?_<;>simp only [aR,SI,SL,Ti,Tj,aX,aW,AV.v.injEq,Value.int.injEq,Value.bool.injEq,Value.string.injEq,AV.vec.injEq,AV.ptr.injEq,true_or,or_true,false_or,or_false,aa.mk.injEq,forall_eq_apply_imp_iff,forall_eq,forall_eq',go_sem])
    all_goals trivial
   ·rintro ⟨i,ns⟩ ⟨hi,hP⟩ K hK;simp only at hi hP
    repeat (first|(with_reducible first|refine af.up ?_|refine fun (K:AK) hK=> ?_|(refine hK _ ?_;clear hK K))|simp only [go_sem]|with_reducible refine wA ?_|clear hK K)
    refine cL.part (fun h=> ?_) (fun h=> ?_)
    ·have hlt:i<ps.length:=by (try simp only [bne_iff_ne,ne_eq,bne_eq_false_iff_eq,beq_iff_eq,beq_eq_false_iff_ne,decide_eq_true_eq,decide_eq_false_iff_not,Tn,To,Tp,Tq] at h);omega
     have eW:=aD (k:=i) (by omega);have eG:=getD_map bM ps i [] hlt;have eN:=Fg vs hlt;rw [hP] at eN;simp only [jA] at eN;simp only [bM] at eG
     repeat (first|(with_reducible first|refine af.up ?_|refine fun (K:AK) hK=> ?_|(refine hK _ ?_;clear hK K))|simp only [go_sem,eG,eW,J5]|with_reducible refine wA ?_|clear hK K)
     refine cL.part (fun hb=> ?_) (fun hb=> ?_)
     ·rw [if_pos hb] at eN
      repeat (first|(with_reducible first|refine af.up ?_|refine fun (K:AK) hK=> ?_|(refine hK _ ?_;clear hK K))|simp only [go_sem,hb,eG,eW]|with_reducible refine wA ?_|clear hK K)
      exact aM.mk (i+1,ns) ⟨by simp only;omega,eN⟩ (by simp only;omega) (by (refine ak ?_ ?_ ?_<;>simp only [aR,SI,SL,Ti,Tj,aX,aW,AV.v.injEq,Value.int.injEq,Value.bool.injEq,Value.string.injEq,AV.vec.injEq,AV.ptr.injEq,true_or,or_true,false_or,or_false,aa.mk.injEq,forall_eq_apply_imp_iff,forall_eq,forall_eq',go_sem]))
     ·rw [if_neg (by rw [hb];simp)] at eN;have eA:=yo ps[i].name (lh vs ns);rw [ur] at eA
      cases hv:hasB vs ps[i].name with
      | true=>
       rw [hv] at eA eN;simp only [if_true,Option.map_some,Bool.or_true] at eA eN
       repeat (first|(with_reducible first|refine af.up ?_|refine fun (K:AK) hK=> ?_|(refine hK _ ?_;clear hK K))|simp only [go_sem,hb,eA,eG,eW]|with_reducible refine wA ?_|clear hK K)
       rw [wU eN]
       repeat (first|(with_reducible first|refine af.up ?_|refine fun (K:AK) hK=> ?_|(refine hK _ ?_;clear hK K))|simp only [go_sem,KV,KU]|with_reducible refine wA ?_|clear hK K)
       (refine ⟨?_, ?_, ?_⟩<;>simp only [aX,aW,AV.v.injEq,Value.int.injEq,Value.bool.injEq,Value.string.injEq,AV.vec.injEq,AV.ptr.injEq,true_or,or_true,false_or,or_false,aa.mk.injEq,forall_eq_apply_imp_iff,forall_eq,forall_eq',go_sem])
      | false=>
       cases hn:hasB ns ps[i].name with
       | true=>
        rw [hv,hn] at eA eN;simp only [if_true,Bool.false_eq_true,if_false,Option.map_some,Bool.or_false] at eA eN
        repeat (first|(with_reducible first|refine af.up ?_|refine fun (K:AK) hK=> ?_|(refine hK _ ?_;clear hK K))|simp only [go_sem,hb,eA,eG,eW]|with_reducible refine wA ?_|clear hK K)
        rw [wU eN]
        repeat (first|(with_reducible first|refine af.up ?_|refine fun (K:AK) hK=> ?_|(refine hK _ ?_;clear hK K))|simp only [go_sem,KV,KU]|with_reducible refine wA ?_|clear hK K)
        (refine ⟨?_, ?_, ?_⟩<;>simp only [aX,aW,AV.v.injEq,Value.int.injEq,Value.bool.injEq,Value.string.injEq,AV.vec.injEq,AV.ptr.injEq,true_or,or_true,false_or,or_false,aa.mk.injEq,forall_eq_apply_imp_iff,forall_eq,forall_eq',go_sem])
       | false=>
        have eS:=yq ps[i].name 2 (lh vs ns) (by rw [ur,hv,hn];rfl);rw [<-JZ] at eS;rw [hv,hn] at eA eN;simp only [Bool.false_eq_true,if_false,Option.map_none,Bool.or_false] at eA eN
        repeat (first|(with_reducible first|refine af.up ?_|refine fun (K:AK) hK=> ?_|(refine hK _ ?_;clear hK K))|simp only [go_sem,hb,eA,eS,eG,eW]|with_reducible refine wA ?_|clear hK K)
        exact aM.mk (i+1,ns++[ps[i].name]) ⟨by simp only;omega,eN⟩ (by simp only;omega) (by (refine ak ?_ ?_ ?_<;>simp only [aR,SI,SL,Ti,Tj,aX,aW,AV.v.injEq,Value.int.injEq,Value.bool.injEq,Value.string.injEq,AV.vec.injEq,AV.ptr.injEq,true_or,or_true,false_or,or_false,aa.mk.injEq,forall_eq_apply_imp_iff,forall_eq,forall_eq',go_sem]))
    ·have e2:ps.take i=ps:=by rw [show i=ps.length by (try simp only [bne_iff_ne,ne_eq,bne_eq_false_iff_eq,beq_iff_eq,beq_eq_false_iff_ne,decide_eq_true_eq,decide_eq_false_iff_not,Tn,To,Tp,Tq] at h);omega,List.take_length]
     rw [e2] at hP
     repeat (first|(with_reducible first|refine af.up ?_|refine fun (K:AK) hK=> ?_|(refine hK _ ?_;clear hK K))|simp only [go_sem,hP,KV,KU]|with_reducible refine wA ?_|clear hK K)
     (refine ⟨?_, ?_, ?_⟩<;>simp only [aX,aW,AV.v.injEq,Value.int.injEq,Value.bool.injEq,Value.string.injEq,AV.vec.injEq,AV.ptr.injEq,true_or,or_true,false_or,or_false,aa.mk.injEq,forall_eq_apply_imp_iff,forall_eq,forall_eq',go_sem])
theorem Fp (q:fg):uC q 0=(uN q).map (fun o=>[.agg (cz o)]):=by simp [uC,uN]
theorem sZ (q:fg) (ho:q.ok) (h1:q.aj.length<=400000) (h2:q.conds.length<=1000000) (h3:q.ret.length<=1000000):ag Tryz.prog 11 [.agg (cd q)] (.v (.int .i64 (fR q))):=by
 have C1:=xM q ho;have C2:=Il q h1;have C3:=zi q;have hS:=uB q h2 h3;rw [Fp] at hS;obtain ⟨ps,cs,rs,ra,sl⟩:=q;simp only at h1 h2 h3;simp only [cd] at C1 C2 C3 hS ⊢
 (refine ag.enter Tryz.func11 rfl (by kernel_rfl) (by kernel_rfl) rfl (by first|rfl|(simp only [go_sem,Bool.and_self,Bool.and_true,Bool.true_and])) (by first|rfl|(simp only [go_sem,Bool.and_self,Bool.and_true,Bool.true_and])) ?_;simp only [Tryz.ntmps11,Tryz.results11,List.length_cons,List.length_nil,Nat.reduceAdd,Nat.reduceSub,Ti,Tj,List.cons_append,List.nil_append])
 repeat' (first|(with_reducible first|refine af.up ?_|refine fun (K:AK) hK=> ?_|refine wD ?_|(refine hK _ ?_;clear hK K))|simp only [go_sem]|with_reducible refine wA ?_|clear hK K|(with_reducible refine ab.one (by assumption) ?_)|(with_reducible refine aQ.one (by assumption) ?_)|(refine cL.part (fun hb=> ?_) (fun hb=> ?_)<;>simp only [hb,go_sem])|(refine cL.part (fun hb=> ?_) (fun hb=> ?_))|(with_reducible refine dy.mk ?_ ?_))
 ·refine ab.fr [] C2 (by simp) ?_ ?_ ?_ ?_ ?_
  ·rfl
  ·repeat (first|(with_reducible first|refine af.up ?_|refine fun (K:AK) hK=> ?_|refine wD ?_|(refine hK _ ?_;clear hK K))|simp only [go_sem]|with_reducible refine wA ?_|clear hK K)
  ·repeat (first|(with_reducible first|refine af.up ?_|refine fun (K:AK) hK=> ?_|refine wD ?_|(refine hK _ ?_;clear hK K))|simp only [go_sem]|with_reducible refine wA ?_|clear hK K)
  ·intro k ob hk;simp at hk
  cases hn:Ct (bz (aV ps)) ps with
  | none=>
   repeat (first|(with_reducible first|refine af.up ?_|refine fun (K:AK) hK=> ?_|refine wD ?_|(refine hK _ ?_;clear hK K))|simp only [go_sem,KV,KU]|with_reducible refine wA ?_|clear hK K)
   refine congrArg (Value.int .i64) ?_;simp only [fR,hb,hn,if_true]
  | some ns=>
   repeat (first|(with_reducible first|refine af.up ?_|refine fun (K:AK) hK=> ?_|refine wD ?_|(refine hK _ ?_;clear hK K))|simp only [go_sem,KV,KU]|with_reducible refine wA ?_|clear hK K)
   refine ab.one C3 ?_
   repeat (first|(with_reducible first|refine af.up ?_|refine fun (K:AK) hK=> ?_|refine wD ?_|(refine hK _ ?_;clear hK K))|simp only [go_sem]|with_reducible refine wA ?_|clear hK K)
   refine yB hS 5 (fun k=>((uN ⟨ps,cs,rs,ra,sl⟩).take k).all (dc (bz (aV ps)) ns)=true) rfl ?_ ?_ ?_ (by kernel_rfl) (by kernel_rfl) ?_ ?_ ?_
   ·repeat (first|(with_reducible first|refine af.up ?_|refine fun (K:AK) hK=> ?_|refine wD ?_|(refine hK _ ?_;clear hK K))|simp only [go_sem]|with_reducible refine wA ?_|clear hK K)
   ·repeat (first|(with_reducible first|refine af.up ?_|refine fun (K:AK) hK=> ?_|refine wD ?_|(refine hK _ ?_;clear hK K))|simp only [go_sem]|with_reducible refine wA ?_|clear hK K)
   ·(refine ak ?_ ?_ ?_<;>simp only [aR,SI,SL,Ti,Tj,aX,aW,AV.v.injEq,Value.int.injEq,Value.bool.injEq,Value.string.injEq,AV.vec.injEq,AV.ptr.injEq,true_or,or_true,false_or,or_false,aa.mk.injEq,forall_eq_apply_imp_iff,forall_eq,forall_eq',go_sem])
   ·intro x hx;obtain ⟨o,_,rfl⟩:=List.mem_map.1 hx
    rfl
   ·intro k x hk hx;rw [List.getElem?_map] at hx
    cases ho:(uN ⟨ps,cs,rs,ra,sl⟩)[k]? with
    | none=>rw [ho] at hx;cases hx
    | some oo=>
     rw [ho] at hx;simp only [RI,Option.some.injEq] at hx;subst hx;have hkl:=(Ra.1 ho).1;have hke:(uN ⟨ps,cs,rs,ra,sl⟩)[k]=oo:=(Ra.1 ho).2
     have hkn: ∀b,dc (bz (aV ps)) ns oo=b->((uN ⟨ps,cs,rs,ra,sl⟩).take (k+1)).all (dc (bz (aV ps)) ns)=b:=fun b hb=>by
      rw [SR hkl,List.all_append,hk,hke];simp [hb]
     have hbad:dc (bz (aV ps)) ns oo=false->Value.int .i64 8=Value.int .i64 (fR ⟨ps,cs,rs,ra,sl⟩):=fun hb'=>by
      have:(uN ⟨ps,cs,rs,ra,sl⟩).all (dc (bz (aV ps)) ns)=false:=by
       rw [<-Bool.not_eq_true,List.all_eq_true];intro hh;rw [hh oo (RK ho)] at hb';cases hb'
      simp only [fR,hb,hn,if_true,this,SV,if_false]
     have hkd:=CX hb oo (RK ho);have hap:=Cu (s:=oo.name) hn;have eA:=yo oo.name (lh (bz (aV ps)) ns);rw [ur] at eA
     repeat (first|(with_reducible first|refine af.up ?_|refine fun (K:AK) hK=> ?_|refine wD ?_|(refine hK _ ?_;clear hK K))|simp only [go_sem,cz]|with_reducible refine wA ?_|clear hK K)
     refine cL.part (fun hb1=> ?_) (fun hb1=> ?_)
     ·repeat (first|(with_reducible first|refine af.up ?_|refine fun (K:AK) hK=> ?_|refine wD ?_|(refine hK _ ?_;clear hK K))|simp only [go_sem,hb1,Go.undef]|with_reducible refine wA ?_|clear hK K)
      exact ⟨hkn true (by simp_all [dc]),by (refine ak ?_ ?_ ?_<;>simp only [aR,SI,SL,Ti,Tj,aX,aW,AV.v.injEq,Value.int.injEq,Value.bool.injEq,Value.string.injEq,AV.vec.injEq,AV.ptr.injEq,true_or,or_true,false_or,or_false,aa.mk.injEq,forall_eq_apply_imp_iff,forall_eq,forall_eq',go_sem])⟩
     ·cases hv:hasB (bz (aV ps)) oo.name with
      | true=>
       rw [hv] at eA;simp only [if_true,RI] at eA
       repeat (first|(with_reducible first|refine af.up ?_|refine fun (K:AK) hK=> ?_|refine wD ?_|(refine hK _ ?_;clear hK K))|simp only [go_sem,hb1,eA]|with_reducible refine wA ?_|clear hK K)
       have hOK:dc (bz (aV ps)) ns oo=((1:Int)==oo.kind):=by
        have h3:oo.kind≠3:=by simpa using hb1
        rcases hkd with e|e|e
        ·simp [dc,e,hv]
        ·simp [dc,e,hap hv]
        ·exact absurd e h3
       refine cL.part (fun hb2=> ?_) (fun hb2=> ?_)
       ·repeat (first|(with_reducible first|refine af.up ?_|refine fun (K:AK) hK=> ?_|refine wD ?_|(refine hK _ ?_;clear hK K))|simp only [go_sem,hb2]|with_reducible refine wA ?_|clear hK K)
        exact ⟨hkn true (by rw [hOK,hb2]),by (refine ak ?_ ?_ ?_<;>simp only [aR,SI,SL,Ti,Tj,aX,aW,AV.v.injEq,Value.int.injEq,Value.bool.injEq,Value.string.injEq,AV.vec.injEq,AV.ptr.injEq,true_or,or_true,false_or,or_false,aa.mk.injEq,forall_eq_apply_imp_iff,forall_eq,forall_eq',go_sem])⟩
       ·repeat (first|(with_reducible first|refine af.up ?_|refine fun (K:AK) hK=> ?_|refine wD ?_|(refine hK _ ?_;clear hK K))|simp only [go_sem,hb2]|with_reducible refine wA ?_|clear hK K)
        exact hbad (by rw [hOK,hb2])
      | false=>
       cases hw:hasB ns oo.name with
       | true=>
        rw [hv,hw] at eA;simp only [if_true,SV,if_false,RI] at eA
        repeat (first|(with_reducible first|refine af.up ?_|refine fun (K:AK) hK=> ?_|refine wD ?_|(refine hK _ ?_;clear hK K))|simp only [go_sem,hb1,eA]|with_reducible refine wA ?_|clear hK K)
        have hOK:dc (bz (aV ps)) ns oo=((2:Int)==oo.kind):=by
         have h3:oo.kind≠3:=by simpa using hb1
         rcases hkd with e|e|e
         ·simp [dc,e,hv]
         ·simp [dc,e,hw]
         ·exact absurd e h3
        refine cL.part (fun hb2=> ?_) (fun hb2=> ?_)
        ·repeat (first|(with_reducible first|refine af.up ?_|refine fun (K:AK) hK=> ?_|refine wD ?_|(refine hK _ ?_;clear hK K))|simp only [go_sem,hb2]|with_reducible refine wA ?_|clear hK K)
         exact ⟨hkn true (by rw [hOK,hb2]),by (refine ak ?_ ?_ ?_<;>simp only [aR,SI,SL,Ti,Tj,aX,aW,AV.v.injEq,Value.int.injEq,Value.bool.injEq,Value.string.injEq,AV.vec.injEq,AV.ptr.injEq,true_or,or_true,false_or,or_false,aa.mk.injEq,forall_eq_apply_imp_iff,forall_eq,forall_eq',go_sem])⟩
        ·repeat (first|(with_reducible first|refine af.up ?_|refine fun (K:AK) hK=> ?_|refine wD ?_|(refine hK _ ?_;clear hK K))|simp only [go_sem,hb2]|with_reducible refine wA ?_|clear hK K)
         exact hbad (by rw [hOK,hb2])
       | false=>
        rw [hv,hw] at eA;simp only [SV,if_false,Option.map_none] at eA
        repeat (first|(with_reducible first|refine af.up ?_|refine fun (K:AK) hK=> ?_|refine wD ?_|(refine hK _ ?_;clear hK K))|simp only [go_sem,hb1,eA]|with_reducible refine wA ?_|clear hK K)
        have hOK:dc (bz (aV ps)) ns oo=((0:Int)==oo.kind):=by
         have h3:oo.kind≠3:=by simpa using hb1
         rcases hkd with e|e|e
         ·simp [dc,e,hv]
         ·simp [dc,e,hw]
         ·exact absurd e h3
        refine cL.part (fun hb2=> ?_) (fun hb2=> ?_)
        ·repeat (first|(with_reducible first|refine af.up ?_|refine fun (K:AK) hK=> ?_|refine wD ?_|(refine hK _ ?_;clear hK K))|simp only [go_sem,hb2]|with_reducible refine wA ?_|clear hK K)
         exact ⟨hkn true (by rw [hOK,hb2]),by (refine ak ?_ ?_ ?_<;>simp only [aR,SI,SL,Ti,Tj,aX,aW,AV.v.injEq,Value.int.injEq,Value.bool.injEq,Value.string.injEq,AV.vec.injEq,AV.ptr.injEq,true_or,or_true,false_or,or_false,aa.mk.injEq,forall_eq_apply_imp_iff,forall_eq,forall_eq',go_sem])⟩
        ·repeat (first|(with_reducible first|refine af.up ?_|refine fun (K:AK) hK=> ?_|refine wD ?_|(refine hK _ ?_;clear hK K))|simp only [go_sem,hb2]|with_reducible refine wA ?_|clear hK K)
         exact hbad (by rw [hOK,hb2])
   ·intro hall;rw [List.length_map,List.take_length] at hall
    repeat (first|(with_reducible first|refine af.up ?_|refine fun (K:AK) hK=> ?_|refine wD ?_|(refine hK _ ?_;clear hK K))|simp only [go_sem]|with_reducible refine wA ?_|clear hK K)
    refine ct (ι:=Nat) 39 (fun i=>[(38, .v (.int .i64 i)),(7, .undef),(8, .undef),(9, .undef)]) (fun i=>cs.length - i) (fun i=>i<=cs.length∧(cs.take i).any iJ=false) 0 ⟨by omega,rfl⟩ ?_ ?_
    ·(refine ak ?_ ?_ ?_<;>simp only [aR,SI,SL,Ti,Tj,aX,aW,AV.v.injEq,Value.int.injEq,Value.bool.injEq,Value.string.injEq,AV.vec.injEq,AV.ptr.injEq,true_or,or_true,false_or,or_false,aa.mk.injEq,forall_eq_apply_imp_iff,forall_eq,forall_eq',go_sem])
     rfl
    ·rintro i ⟨hi,hP⟩ K hK
     repeat (first|(with_reducible first|refine af.up ?_|refine fun (K:AK) hK=> ?_|refine wD ?_|(refine hK _ ?_;clear hK K))|simp only [go_sem]|with_reducible refine wA ?_|clear hK K)
     refine cL.part (fun h=> ?_) (fun h=> ?_)
     ·have hlt:i<cs.length:=by (try simp only [bne_iff_ne,ne_eq,bne_eq_false_iff_eq,beq_iff_eq,beq_eq_false_iff_ne,decide_eq_true_eq,decide_eq_false_iff_not,Tn,Int.natCast_inj,Int.ofNat_lt,Int.ofNat_le] at h);omega
      have eW:=aD (k:=i) (by omega);have eG:=getD_map aH cs i [] hlt;have K1:=ET cs[i].left;have K2:=ET cs[i].right;simp only [aH,cz] at K1 K2 eG;have hr:=BT hb (List.getElem_mem hlt);have hbd:iJ cs[i]=_:=Ck hr.1 hr.2
      have hend:iJ cs[i]=true->Value.int .i64 10=Value.int .i64 (fR ⟨ps,cs,rs,ra,sl⟩):=fun hx=>by
       have:cs.any iJ=true:=List.any_eq_true.2 ⟨_,List.getElem_mem hlt,hx⟩
       simp only [fR,hb,hn,if_true,hall,this]
      clear hb
      have hS:(cs.take (i+1)).any iJ=iJ cs[i]:=by
       rw [SR hlt,List.any_append,hP];simp
      repeat' (first|(with_reducible first|refine af.up ?_|refine fun (K:AK) hK=> ?_|refine wD ?_|(refine hK _ ?_;clear hK K))|simp only [go_sem,eG,eW]|with_reducible refine wA ?_|clear hK K|(with_reducible refine ab.one (by assumption) ?_)|(with_reducible refine aQ.one (by assumption) ?_)|(refine cL.part (fun hb=> ?_) (fun hb=> ?_)<;>simp only [hb,go_sem,eG,eW])|(refine cL.part (fun hb=> ?_) (fun hb=> ?_))|(with_reducible refine dy.mk ?_ ?_))
      ·rename_i hx;exact hend (by rw [hbd,hx,hb];rfl)
      ·rename_i hx;exact aM.mk (i+1) ⟨by omega,by rw [hS,hbd,hx,hb];rfl⟩ (by omega) (by (refine ak ?_ ?_ ?_<;>simp only [aR,SI,SL,Ti,Tj,aX,aW,AV.v.injEq,Value.int.injEq,Value.bool.injEq,Value.string.injEq,AV.vec.injEq,AV.ptr.injEq,true_or,or_true,false_or,or_false,aa.mk.injEq,forall_eq_apply_imp_iff,forall_eq,forall_eq',go_sem]))
      ·exact aM.mk (i+1) ⟨by omega,by rw [hS,hbd,hb];rfl⟩ (by omega) (by (refine ak ?_ ?_ ?_<;>simp only [aR,SI,SL,Ti,Tj,aX,aW,AV.v.injEq,Value.int.injEq,Value.bool.injEq,Value.string.injEq,AV.vec.injEq,AV.ptr.injEq,true_or,or_true,false_or,or_false,aa.mk.injEq,forall_eq_apply_imp_iff,forall_eq,forall_eq',go_sem]))
     ·have e1:cs.any iJ=false:=by rw [<-hP,show i=cs.length by (try simp only [bne_iff_ne,ne_eq,bne_eq_false_iff_eq,beq_iff_eq,beq_eq_false_iff_ne,decide_eq_true_eq,decide_eq_false_iff_not,Tn,Int.natCast_inj,Int.ofNat_lt,Int.ofNat_le] at h);omega,List.take_length]
      repeat (first|(with_reducible first|refine af.up ?_|refine fun (K:AK) hK=> ?_|refine wD ?_|(refine hK _ ?_;clear hK K))|simp only [go_sem]|with_reducible refine wA ?_|clear hK K)
      refine congrArg (Value.int .i64) ?_;simp only [fR,hb,hn,if_true,hall,e1,SV,if_false]
 ·refine congrArg (Value.int .i64) ?_;simp only [fR,hb,if_false,SV]
end Go.Proofs.YtjcobjgjjlahdaaGreatDoor
