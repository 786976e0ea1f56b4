/- Code in whose midst a call writes over lists that lie apart from all that was there ahead of it: the rule. -/
import Derived.Test.YtldnlbcibmmbbaaGreatWWit
set_option linter.unusedSimpArgs false
set_option linter.unusedVariables false
open Nat renaming le_trans → IW, lt_of_lt_of_le → IX
namespace Go.Proofs.YtldnlbcibmmbbaaGreat
open Go.RowKit
section
variable {P:Program}
structure Dl (D1:Nat→Prop) (nu1:Nat→Nat→Value) (o1:List (Option ab)) (Z1:Nat→Prop) (w1:World) (D:Nat→Prop) (nu:Nat→Nat→Value) (o:List (Option ab)) (Z:Nat→Prop) (w:World):Prop where
 mono:kC Z1 nu1 o1 w1 nu o w
 len:o1.length≤o.length
 down: ∀b,D b→D1 b∨Z1 b
 zz: ∀b,Z b→Z1 b∨owned nu1 o1 b∨w1.heap.size≤b
variable {D1 D D':Nat→Prop} {nu1 nu nu':Nat→Nat→Value} {o1 o o':List (Option ab)} {Z1 Z Z':Nat→Prop} {w1 w w':World}
theorem kC.refl:kC Z nu o w nu o w:=(bp.refl nu o w).Io
theorem Dl.refl:Dl D1 nu1 o1 Z1 w1 D1 nu1 o1 Z1 w1:=⟨.refl,Nat.le_refl _,fun _ h=> .inl h,fun _ h=> .inl h⟩
theorem Dl.nz (h:Dl D1 nu1 o1 Z1 w1 D nu o Z w) {b:Nat} (h1:b<w1.heap.size) (h2: ¬owned nu1 o1 b) (h3: ¬Z1 b): ¬Z b:=fun hz=>by
 rcases h.zz b hz with q|q|q
 ·exact h3 q
 ·exact h2 q
 ·omega
theorem Dl.step (hro1:RO D1 nu1 o1 w1) (h:Dl D1 nu1 o1 Z1 w1 D nu o Z w) (hm:kC Z nu o w nu' o' w') (hD: ∀b,D' b→D b∨Z b) (hZ: ∀b,Z' b→Z b∨owned nu o b∨w.heap.size≤b) (hn:o1.length≤o'.length):Dl D1 nu1 o1 Z1 w1 D' nu' o' Z' w':=by
 have hown: ∀b,owned nu o b→Z1 b∨owned nu1 o1 b∨w1.heap.size≤b:=fun b hb=>by
  by_cases q1:Z1 b
  ·exact .inl q1
  ·by_cases q2:owned nu1 o1 b
   ·exact .inr (.inl q2)
   ·rcases Nat.lt_or_ge b w1.heap.size with q3|q3
    ·exact absurd hb (h.mono.keep b q3 q2 q1).2
    ·exact .inr (.inr q3)
 have hd1: ∀b,Z1 b∨owned nu1 o1 b∨w1.heap.size≤b→D1 b∨Z1 b:=fun b hb=>by
  rcases hb with q|q|q
  ·exact .inr q
  ·exact .inl (hro1.eE q)
  ·exact .inl (hro1.up b q)
 refine ⟨⟨hm.os.trans h.mono.os,hm.tape.trans h.mono.tape,hm.output.trans h.mono.output,IW h.mono.size hm.size,fun id len hlt hh=> ?_,fun b q1 q2 q3=> ?_⟩,hn,fun b hb=> ?_,fun b hb=> ?_⟩
 ·have hlt':=eK hh
  obtain ⟨k1,k2⟩:=h.mono.kz id len (IX hlt' h.len) hh
  obtain ⟨k3,k4⟩:=hm.kz id len hlt k1
  exact ⟨k3,k4.trans k2⟩
 ·obtain ⟨k1,k2⟩:=h.mono.keep b q1 q2 q3
  obtain ⟨k3,k4⟩:=hm.keep b (IX q1 h.mono.size) k2 (h.nz q1 q2 q3)
  exact ⟨k3.trans k1,k4⟩
 ·rcases hD b hb with q|q
  ·exact h.down b q
  ·exact hd1 b (h.zz b q)
 ·rcases hZ b hb with q|q|q
  ·exact h.zz b q
  ·exact hown b q
  ·exact .inr (.inr (IW h.mono.size q))
def D7 (m:WM P) (hro1:RO D1 nu1 o1 w1) (Z1:Nat→Prop) (hn:m.n0≤o1.length):WM P where
 n0:=o1.length
 fix:=m.fix
 M:=fun D nu o Z y w=>y = .no∧m.M D nu o Z .no w∧Dl D1 nu1 o1 Z1 w1 D nu o Z w
 step:=fun {D D' nu o Z Z' y w nu' o' w'} h hro hm hro' hra hD hD2 hZ hn'=>
  ⟨h.1,m.step h.2.1 hro hm hro' hra hD hD2 hZ (IW hn hn'),h.2.2.step hro1 hm hD (fun b hb=>(hZ b hb).2.2) hn'⟩
 kV:=fun h=>⟨(m.kV h.2.1).1,h.2.2.len,(m.kV h.2.1).2.2⟩
 yield:=fun h _ _ _=>by cases h.1
def DD:List Code→Code→Code
 | [],x=>x
 | c :: cs,x=> .seq c (DD cs x)
def wq (P:Program) (n0:Nat):List Code→AS→(AS→Prop)→Prop
 | [],s,K=>K s
 | c :: cs,s,K=>bZ P n0 c s (jv (fun s'=>wq P n0 cs s' K) (fun _ _=>False))
theorem Ae {n0:Nat} {s:AS} {K:AS→Prop} (h:K s):wq P n0 [] s K:=h
theorem l6 {n0:Nat} {c:Code} {cs:List Code} {s:AS} {K0:AS→Prop} (h: ∀K:AS→Prop,(∀s',wq P n0 cs s' K0→K s')→bZ P n0 c s (jv K (fun _ _=>False))):wq P n0 (c :: cs) s K0:=h _ (fun _ h=>h)
theorem yd {n0 i:Nat} {ops:Array Oper} {d:Bool} {b:Code} {s:AS} {Q:aH→AS→Prop} (h:bZ P n0 (.seq (.region i ops d) b) s Q):bZ P n0 (.seq (.region i ops d) b) s Q:=h
theorem wW {f:Fr} {a:Act} {oo:Oper} {next:Act→World→Prop} {Q:Exit→Act→World→Prop} (hcalm: ∀c,oo.op ≠ .defer c) (h:oo.wp P a w next (fun e a' w'=>e ≠ .outgrown∧Q e a' w')):oo.wpIn (WF f.r) 9 P a w next Q:=by
 refine ⟨fun f _=>trivial, ?_⟩
 rw [Oper.semAt_eq _ _ oo hcalm]
 unfold Oper.wp at h
 generalize (execOp a.eval oo).run P w=res at h
 unfold Oper.upon at h
 unfold Oper.uponIn
 split at h
 ·exact h
 ·exact h
 ·exact h
 ·refine ⟨fun e=>(by cases e),iP (h.mono fun e w' he=> ?_)⟩
  cases e with
  | returned v=>exact he
  | panicked ch=>exact he.2
  | outgrown=>obtain ⟨_,_,hh⟩:=he;exact absurd rfl hh.1
 ·exact ⟨fun e=>(by cases e),l5 h⟩
 ·exact h.2
 ·exact h.elim
def Bn (A:Nat→Prop) (s sA:AS):Prop:=sA.y=s.y∧ ∀(f:Fr) (D:Nat→Prop) (nu:Nat→Nat→Value) (a:Act) (w:World),RS f D nu s a w→(∀b,A b→Fz D nu s.o w b∧ ∃C T k,w.heap[b]? = some (.cells C T k))→(∀b,Fz D nu s.o w b→(∃C T k,w.heap[b]? = some (.cells C T k))→A b) →
 RS f D nu sA a w∧bp nu s.o w nu sA.o w∧bp nu sA.o w nu s.o w
def A3 (P:Program) (A:Nat→Prop) (oc:Oper) (s s':AS):Prop:=s'.y=s.y∧s'.o.length=s.o.length∧((∀g T cs,tZ g=some (T,cs)→A g) →
 ∀(f:Fr) (D:Nat→Prop) (nu:Nat→Nat→Value) (a:Act) (w:World) (next:Act→World→Prop) (Q:Exit→Act→World→Prop),RS f D nu s a w →
  (∀(S:Nat→Prop) v w' nu',(∀b,S b→ ¬A b∧Fz D nu s.o w b∧ ∃C T k,w.heap[b]? = some (.cells C T k))→kC S nu s.o w nu' s'.o w'→RS f D nu' s' (a.put oc.dst v) w'→next (a.put oc.dst v) w')→oc.wp P a w next Q)
theorem RS.lS {f:Fr} {s:AS} {a:Act} (h:RS f D' nu s a w) (hD: ∀b,D' b→D b):RS f D nu s a w:=⟨h.ro.lS hD,⟨h.tm.len,fun i c x q1 q2=>(h.tm.bA i c x q1 q2).lS hD⟩,h.fR⟩
theorem yA {n0:Nat} {pre:List Code} {id:Nat} {oL oc:Oper} {rest:Code} {s:AS} {Q:aH→AS→Prop} (hy:s.y = .no) (hokpre:pre.all bC=true) (hcL: ∀c,oL.op ≠ .defer c) (hcc: ∀c,oc.op ≠ .defer c) (hgL:oL.guard=none) (hgc:oc.guard=none) (hokr:bC rest=true)
  (wrap:(Nat→Prop)→AS) (hw: ∀A,Bn A s (wrap A))
  (h: ∀A,wq P (wrap A).o.length pre (wrap A) (fun s2=>AY P oL.op oL.dst s2 (fun s3=> ∃s4,A3 P A oc s3 s4∧bZ P n0 rest s4 Q))) :
  yZ P n0 (DD pre (.seq (.region id #[oL,oc] false) rest)) s Q:=fun f m D nu a w hZr hn hm hs hmx R hO hR=>by
 let A:Nat→Prop:=fun b=>Fz D nu s.o w b∧ ∃C T k,w.heap[b]? = some (.cells C T k)
 obtain ⟨hyA,hW⟩:=hw A
 obtain ⟨hsA,hm1,hm2⟩:=hW f D nu a w hs (fun b hb=>hb) (fun b h1 h2=>⟨h1,h2⟩)
 have hmA:m.M D nu (wrap A).o f.Z .no w:=m.own (by rw [←hy];exact hm) hs.ro hm1 hsA.ro
 have hGA: ∀g T cs,tZ g=some (T,cs)→A g:=fun g T cs hg=>by
  obtain ⟨⟨t,k1⟩,k2,k3⟩:=hs.ro.gl g T cs hg
  exact ⟨⟨(Array.getElem?_eq_some_iff.1 k1).1,k2,k3⟩,_,_,_,k1⟩
 have hownA: ∀b,b<w.heap.size→ ¬owned nu (wrap A).o b→ ¬owned nu s.o b:=fun b hb hno=>(hm2.keep b hb hno).2
 have hz1:=(m.kV hmA).1
 let tm:=D7 m hsA.ro f.Z (m.kV hmA).2.1
 have run: ∀(X:Code) (K:AS→Prop) (pre:List Code),pre.all bC=true→ ∀(s:AS) (a:Act) (w2:World) (D:Nat→Prop) (nu:Nat→Nat→Value) (Z:Nat→Prop),tm.M D nu s.o Z s.y w2→RS (f.wz Z) D nu s a w2→wq P (wrap A).o.length pre s K →
   (∀D' Z' s' a' w' nu',tm.M D' nu' s'.o Z' s'.y w'→RS (f.wz Z') D' nu' s' a' w'→K s'→X.wpIn (WF f.r) 9 P R a' w')→(DD pre X).wpIn (WF f.r) 9 P R a w2:=by
  intro X K pre
  induction pre with
  | nil=>exact fun _ s a w2 D nu Z h1 h2 h3 h4=>h4 D Z s a w2 nu h1 h2 h3
  | cons c cs ih=>
   intro hok s a w2 D nu Z h1 h2 h3 h4
   simp only [List.all_cons,Bool.and_eq_true] at hok
   refine wpIn_seq (fc hmx (f:=f) tm hZr (Nat.le_refl _) c hok.1 s a w2 D nu Z _ _ (fun a w h=>hO a w h) h1 h2 h3 (fun e D' Z' s' a' w' nu' k1 k2 k3=> ?_))
   cases e with
   | normal=>exact ih hok.2 s' a' w' D' nu' Z' k1 k2 k3 h4
   | exit i=>exact k3.elim
   | goto i=>exact k3.elim
   | ret=>exact k3.elim
 refine run _ _ pre hokpre (wrap A) a w D nu f.Z ⟨hyA.trans hy,hmA, .refl⟩ hsA (h A) (fun D2 Z2 s2 a2 w2 nu2 h1 h2 h3=> ?_)
 refine wpIn_seq (wpIn_region_list ?_)
 have hwL: ∀t,Region.wanted oL t=true:=fun t=>by simp [Region.wanted,hgL]
 have hwC: ∀t,Region.wanted oc t=true:=fun t=>by simp [Region.wanted,hgc]
 simp only [wpListIn,hwL,hwC,if_true]
 refine xV (f:=f.wz Z2) tm hZr hcL h1 h2 h3 (fun D3 v w3 nu3 s3 k1 k2 k3=> ?_)
 obtain ⟨s4,⟨hy4,hl4,hC⟩,hrest⟩:=k3
 refine wW (f:=f) hcc (hC hGA (f.wz Z2) D3 nu3 _ w3 _ _ k2 (fun S v4 w4 nu4 hS hM hs4=> ?_))
 obtain ⟨hy3,hm3,ht⟩:=k1
 have hz3:=(m.kV hm3).1
 have hk: ∀b,b<w.heap.size→ ¬owned nu (wrap A).o b→ ¬f.Z b→w4.heap[b]? = w.heap[b]? ∧ ¬owned nu4 s4.o b:=fun b q1 q2 q3=>by
  obtain ⟨e1,e2⟩:=ht.mono.keep b q1 q2 q3
  have hnS: ¬S b:=fun hb=>by
   obtain ⟨p1,p2,C,T,k,p3⟩:=hS b hb
   rcases ht.down b p2.2.2 with q|q
   ·exact p1 ⟨⟨q1,hownA b q1 q2,q⟩,C,T,k,by rw [←e1];exact p3⟩
   ·exact q3 q
  obtain ⟨e3,e4⟩:=hM.keep b (IX q1 ht.mono.size) e2 hnS
  exact ⟨e3.trans e1,e4⟩
 have hmz:kC f.Z nu (wrap A).o w nu4 s4.o w4:=⟨hM.os.trans ht.mono.os,hM.tape.trans ht.mono.tape,hM.output.trans ht.mono.output,IW ht.mono.size hM.size,fun id len hlt hh=>by
  obtain ⟨e1,e2⟩:=ht.mono.kz id len (by rw [←hl4];exact hlt) hh
  obtain ⟨e3,e4⟩:=hM.kz id len hlt e1
  exact ⟨e3,e4.trans e2⟩,hk⟩
 have hs5:RS (f.wz Z2) (fun b=>D3 b∨(D b∧ ¬Z2 b)) nu4 s4 (({ a2 with }:Act).put oL.dst v |>.put oc.dst v4) w4:=hs4.lS (fun b hb=> .inl hb)
 have hlen:(wrap A).o.length≤s4.o.length:=by rw [hl4];exact ht.len
 have hm5:m.M (fun b=>D3 b∨(D b∧ ¬Z2 b)) nu4 s4.o Z2 .no w4:=by
  refine m.step hmA hsA.ro hmz hs5.ro (fun c x hr hc=> ?_) (fun b hb=> ?_) (fun b hb=> ?_) (fun b hb=> ?_) (IW (m.kV hmA).2.1 hlen)
  ·have h5:RA (fun b=>D b∧b<w.heap.size) nu (wrap A).o w4 c x:=hr.keep (fun b hf=>⟨(hk b hf.1 hf.2.1 (fun q=>(hz1 b q).2 hf.2.2)).1,IX hf.1 hmz.size,hf.2.1,hf.2.2,hf.1⟩)
   exact h5.tr (fun b hf=>⟨hf.1,(hk b hf.2.2.2 hf.2.1 (fun q=>(hz1 b q).2 hf.2.2.1)).2, .inr ⟨hf.2.2.1,ht.nz hf.2.2.2 hf.2.1 (fun q=>(hz1 b q).2 hf.2.2.1)⟩⟩) (fun id len hlt hh=>hmz.kz id len hlt hh) hc
  ·rcases hb with hb|hb
   ·exact ht.down b hb
   ·exact .inl hb.1
  ·by_cases hz:Z2 b
   ·exact .inr hz
   ·exact .inl (.inr ⟨hb,hz⟩)
  ·exact ⟨IX (hz3 b hb).1 hM.size,fun hh=>hh.elim (hz3 b hb).2 (fun q=>q.2 hb),ht.zz b hb⟩
 exact fc hmx (f:=f) m hZr hn rest hokr s4 _ w4 _ nu4 Z2 Q R hO (by rw [hy4,hy3];exact hm5) hs5 hrest hR
theorem yh {n0:Nat} {c1 c2 c3 rest:Code} {id:Nat} {oL oc:Oper} {s:AS} {Q:aH→AS→Prop} (hy:s.y = .no) (hok:[c1,c2,c3].all bC=true) (hcL: ∀c,oL.op ≠ .defer c) (hcc: ∀c,oc.op ≠ .defer c) (hgL:oL.guard=none) (hgc:oc.guard=none) (hokr:bC rest=true)
  (wrap:(Nat→Prop)→AS) (hw: ∀A,Bn A s (wrap A))
  (h: ∀A,wq P (wrap A).o.length [c1,c2,c3] (wrap A) (fun s2=>AY P oL.op oL.dst s2 (fun s3=> ∃s4,A3 P A oc s3 s4∧bZ P n0 rest s4 Q))) :
  bZ P n0 (.seq c1 (.seq c2 (.seq c3 (.seq (.region id #[oL,oc] false) rest)))) s Q:= .inr (yA (pre:=[c1,c2,c3]) hy hok hcL hcc hgL hgc hokr wrap hw h)
end
end Go.Proofs.YtldnlbcibmmbbaaGreat
