/- The abstract walk: iterators, and ranges over them. -/
import Derived.Test.YtldnlbcibmmbbaaGreatWAbsN
set_option linter.unusedSimpArgs false
set_option linter.unusedVariables false
open Array renaming getElem?_eq_some_iff → IY
open Bool renaming and_eq_true → JL
open List renaming nodup_nil → Kb, getElem?_eq_some_iff → I0, drop_eq_getElem_cons → Kc, getElem?_eq_getElem → Je, mem_of_getElem? → Jz
open Nat renaming lt_or_ge → I2, lt_of_lt_of_le → IX, le_refl → IV, le_trans → IW
/-! The abstract walk: iterators, and ranges over them. -/
namespace Go.Proofs.YtldnlbcibmmbbaaGreat
open Go.RowKit
structure ER (X:Nat→Prop) (w w':World):Prop where
 os:w'.os=w.os
 tape:w'.tape=w.tape
 output:w'.output=w.output
 size:w.heap.size≤w'.heap.size
 same: ∀b,b<w.heap.size→ ¬X b→w'.heap[b]? = w.heap[b]?
structure AZ (T:Nat→Prop) (w w':World):Prop where
 os:w'.os=w.os
 tape:w'.tape=w.tape
 output:w'.output=w.output
 size:w.heap.size≤w'.heap.size
 same: ∀b,b<w.heap.size→T b→w'.heap[b]? = w.heap[b]?
structure uI (P:Program) (l:Nat) where
 J:List (List AV)→(Nat→Prop)→(Nat→Prop)→World→Prop
 Jx:(Nat→Prop)→(Nat→Prop)→World→Prop
 St:Nat→Prop
 nb: ∀ {rest X T X' w w'},J rest X T w→ER X w w'→(∀b,X' b→b<w'.heap.size∧(X b∨w.heap.size≤b))→J rest X' (fun b=>T b∨(w.heap.size≤b∧b<w'.heap.size)) w'
 xd: ∀ {X T X' w w'},Jx X T w→ER X w w'→(∀b,X' b→b<w'.heap.size∧(X b∨w.heap.size≤b))→Jx X' (fun b=>T b∨(w.heap.size≤b∧b<w'.heap.size)) w'
 round: ∀ {x rest X T w D nu} {vals:Array Value},J (x :: rest) X T w→gb D nu [] w x vals→bB 0 x=true→(∀b,b<w.heap.size→D b→(T b∨St b)∧ ¬X b) →
  YieldAt (WF none) 8 P l vals w (fun e w'=>AZ (fun b=>T b∨St b) w w'∧((e = .returned (.bool true)∧J rest X T w')∨(e = .returned (.bool false)∧Jx X T w')))
section
variable {D:Nat→Prop} {nu:Nat→Nat→Value} {o:List (Option ab)} {w:World} {P:Program}
def En {l:Nat} (pr:uI P l) (X T:Nat→Prop) (w:World):je→Prop
 | .no=>False
 | .run l' rest=>l'=l∧pr.J rest X T w
 | .off=>pr.Jx X T w
theorem En.nb {l:Nat} {pr:uI P l} {X T X':Nat→Prop} {w w':World} {y:je} (h:En pr X T w y) (ha:ER X w w') (hx: ∀b,X' b→b<w'.heap.size∧(X b∨w.heap.size≤b)):En pr X' (fun b=>T b∨(w.heap.size≤b∧b<w'.heap.size)) w' y:=by
 cases y with
 | no=>exact h.elim
 | run l' rest=>exact ⟨h.1,pr.nb h.2 ha hx⟩
 | off=>exact pr.xd h ha hx
def wB (P:Program) (n0:Nat) {l:Nat} (pr:uI P l):WM P where
 n0:=n0
 fix:=fun _=>False
 M:=fun D nu o Z y w=> ∃X T,(∀b,owned nu o b→X b)∧(∀b,Z b→X b)∧(∀b,X b→T b)∧(∀b,T b→b<w.heap.size)∧(∀b,X b→owned nu o b∨ ¬D b)∧(∀b,Z b→ ¬D b)∧(∀b,b<w.heap.size→D b→T b∨pr.St b)∧n0≤o.length∧En pr X T w y
 step:=fun {D D' nu o Z Z' y w nu' o' w'} h hro hm hro' _ hD hDZ hZ hn=>by
  obtain ⟨X,T,h1,h2,h3,h4,h5,h5',h6,h7,h8⟩:=h
  have hX: ∀b,(owned nu' o' b∨Z' b∨(X b∧ ¬D' b))→b<w'.heap.size∧(X b∨w.heap.size≤b):=fun b hb=>by
   rcases hb with q|q|q
   ·refine ⟨hro'.aF q, ?_⟩
    rcases I2 b w.heap.size with hlt|hge
    ·by_cases ho:owned nu o b
     ·exact .inl (h1 b ho)
     ·by_cases hz:Z b
      ·exact .inl (h2 b hz)
      ·exact absurd q (hm.keep b hlt ho hz).2
    ·exact .inr hge
   ·refine ⟨(hZ b q).1, ?_⟩
    rcases (hZ b q).2.2 with r|r|r
    ·exact .inl (h2 b r)
    ·exact .inl (h1 b r)
    ·exact .inr r
   ·exact ⟨IX (h4 b (h3 b q.1)) hm.size, .inl q.1⟩
  refine ⟨fun b=>owned nu' o' b∨Z' b∨(X b∧ ¬D' b),fun b=>T b∨(w.heap.size≤b∧b<w'.heap.size),fun b h=> .inl h,fun b h=> .inr (.inl h),fun b hb=> ?_,fun b hb=> ?_,fun b hb=> ?_,fun b hb=>(hZ b hb).2.1,fun b hlt hd=> ?_,hn, ?_⟩
  ·obtain ⟨q1,q2⟩:=hX b hb
   rcases q2 with q2|q2
   ·exact .inl (h3 b q2)
   ·exact .inr ⟨q2,q1⟩
  ·rcases hb with q|q
   ·exact IX (h4 b q) hm.size
   ·exact q.2
  ·rcases hb with q|q|q
   ·exact .inl q
   ·exact .inr (hZ b q).2.1
   ·exact .inr q.2
  ·rcases I2 b w.heap.size with hb|hb
   ·rcases hD b hd with q|q
    ·rcases h6 b hb q with q|q
     ·exact .inl (.inl q)
     ·exact .inr q
    ·exact .inl (.inl (h3 b (h2 b q)))
   ·exact .inl (.inr ⟨hb,hlt⟩)
  ·exact h8.nb ⟨hm.os,hm.tape,hm.output,hm.size,fun b hb hx=>(hm.keep b hb (fun ho=>hx (h1 b ho)) (fun hz=>hx (h2 b hz))).1⟩ hX
 kV:=fun h=>by
  obtain ⟨X,T,h1,h2,h3,h4,h5,h5',h6,h7,h8⟩:=h
  exact ⟨fun b hb=>⟨h4 b (h3 b (h2 b hb)),h5' b hb⟩,h7,fun b hb=>hb.elim⟩
 yield:=fun {D nu o Z l' x rest w vals} h hro hra hw=>by
  obtain ⟨X,T,h1,h2,h3,h4,h5,h5',h6,h7,rfl,h8⟩:=h
  have hF: ∀b,Fz D nu o w b→Fz (fun b=>D b∧ ¬X b) nu [] w b:=fun b hf=>⟨hf.1,bf _ _,hf.2.2,fun hx=>by
   rcases h5 b hx with q|q
   ·exact hf.2.1 q
   ·exact q hf.2.2⟩
  have hra':gb (fun b=>D b∧ ¬X b) nu [] w x vals:=⟨hra.len,fun i c v q1 q2=>(hra.bA i c v q1 q2).tr (n:=0) hF (fun id len hlt=>by omega) (br hw q1)⟩
  obtain ⟨fn,tmps,assign,body,hrun,hround⟩:=pr.round h8 hra' hw (fun b hb hd=>⟨h6 b hb hd.1,hd.2⟩)
  refine ⟨fn,tmps,assign,body,hrun,hround.mono fun e w' he=> ?_⟩
  obtain ⟨hk,he⟩:=he
  have hM: ∀y,En pr X T w' y→ ∃X T,(∀b,owned nu o b→X b)∧(∀b,Z b→X b)∧(∀b,X b→T b)∧(∀b,T b→b<w'.heap.size)∧(∀b,X b→owned nu o b∨ ¬(D b∧ ¬(w.heap.size≤b∧b<w'.heap.size)))∧(∀b,Z b→ ¬(D b∧ ¬(w.heap.size≤b∧b<w'.heap.size))) ∧
    (∀b,b<w'.heap.size→(D b∧ ¬(w.heap.size≤b∧b<w'.heap.size))→T b∨pr.St b)∧n0≤o.length∧En pr X T w' y:=fun y hy=>by
   refine ⟨X,T,h1,h2,h3,fun b hb=>IX (h4 b hb) hk.size,fun b hb=> ?_,fun b hb hd=>h5' b hb hd.1,fun b hlt hd=> ?_,h7,hy⟩
   ·rcases h5 b hb with q|q
    ·exact .inl q
    ·exact .inr (fun hd=>q hd.1)
   ·exact h6 b (by have:=hd.2;omega) hd.1
  refine ⟨⟨hk.os,hk.tape,hk.output,hk.size,fun b hb hh=>hk.same b hb ?_⟩, ?_⟩
  ·rcases hh with q|q|q|q
   ·exact h6 b hb q
   ·exact .inl (h3 b (h2 b q))
   ·exact .inl (h3 b (h1 b q))
   ·exact q.elim
  ·rcases he with ⟨rfl,hj⟩|⟨rfl,hj⟩
   ·exact .inl ⟨rfl,hM _ ⟨rfl,hj⟩⟩
   ·exact .inr ⟨rfl,hM _ hj⟩
def uM (P:Program) (gf:FuncId) (caps:List AV) (oI:List (Option ab)) (L:List (List AV)):Prop:=
 dH P gf=true∧ ∀(l:Nat) (pr:uI P l) (D:Nat→Prop) (nu:Nat→Nat→Value) (w:World) (vargs:Array Value) (X:Nat→Prop),RO D nu oI w→gb D nu oI w caps vargs→(∀b,owned nu oI b→X b)→(∀b,X b→owned nu oI b)→(∀b,b<w.heap.size→D b→X b∨pr.St b)→(∀b,pr.St b→b<w.heap.size)→pr.J L X X w →
  Calls P gf (#[.func (.yield l) #[] #[]]++vargs) w (fun e w'=>(∃v,e = .returned v)∧ ∃X' T',pr.J [] X' T' w'∨pr.Jx X' T' w')
def Ai (P:Program) (rs:List ResultVar) (l:Nat) (e:aH) (s:AS):Prop:=match e with
 | .ret| .normal=>kB (jW P s rs) s.o (fun _ _=>s.y = .run l []∨s.y = .off)
 | _=>False
theorem uM.enter {gf:FuncId} {fn:Func} {c:Code} {caps:List AV} {oI:List (Option ab)} {L:List (List AV)} (hf:P.funcs[gf]? = some fn) (hb:fn.body=some c) (hc:dH P gf=true) (hok:bC c=true) (hmx:P.follows .mixedOrders=true)
  (h: ∀l,bZ P oI.length c ⟨(.v (.func (.yield l) #[] #[]) :: caps)++List.replicate (fn.ntmps - (AV.v (.func (.yield l) #[] #[]) :: caps).length) .undef,oI, .run l L⟩ (Ai P fn.results.toList l)):uM P gf caps oI L:=by
 refine ⟨hc,fun l pr D nu w vargs X hro ha hx hx' hD hSt hJ=>uP (n:=9) (callsIn_of_wp_marks hf hb trivial ?_ rfl)⟩
 have ha':gb D nu oI w (.v (.func (.yield l) #[] #[]) :: caps) (#[.func (.yield l) #[] #[]]++vargs):=by
  refine ⟨by simp [ha.len];omega,fun i c v h1 h2=> ?_⟩
  cases i with
  | zero=>
   rw [Array.getElem?_append_left (by simp)] at h2
   simp at h1 h2;subst h1;subst h2;exact .v _
  | succ i=>
   refine ha.bA i c v (by simpa using h1) ?_
   rw [Array.getElem?_append_right (by simp)] at h2
   simpa using h2
 have hs:RS ⟨w.heap.size,none,fun _=>False⟩ D nu ⟨(.v (.func (.yield l) #[] #[]) :: caps)++List.replicate (fn.ntmps - (AV.v (.func (.yield l) #[] #[]) :: caps).length) .undef,oI, .run l L⟩ { tmps:=(#[Value.func (.yield l) #[] #[]]++vargs)++Array.replicate (fn.ntmps - (#[Value.func (.yield l) #[] #[]]++vargs).size) Go.undef,defers:=[] } w:=uY rfl (IV _) hro ha'
 have hX: ∀b,X b→b<w.heap.size:=fun b hb=>hro.aF (hx' b hb)
 have hM:(wB P oI.length pr).M D nu oI (fun _=>False) (.run l L) w:=⟨X,X,hx,fun b hb=>hb.elim,fun b hb=>hb,hX,fun b hb=> .inl (hx' b hb),fun b hb=>hb.elim,hD,IV _,rfl,hJ⟩
 have fin: ∀(D' Z':Nat→Prop) (s':AS) (a':Act) (w':World) (nu':Nat→Nat→Value),(wB P oI.length pr).M D' nu' s'.o Z' s'.y w'→RS ⟨w.heap.size,none,Z'⟩ D' nu' s' a' w'→kB (jW P s' fn.results.toList) s'.o (fun _ _=>s'.y = .run l []∨s'.y = .off) →
   LeavesInM (WF none) 9 P fn a'.tmps (fun e w'=>(∃v,e = .returned v)∧ ∃X' T',pr.J [] X' T' w'∨pr.Jx X' T' w') a'.defers .returning w':=fun D' Z' s' a' w' nu' h1 h2 h3=>by
  obtain ⟨rs,k1,k2,k3⟩:=h2.fR.marks
  rw [k2]
  refine iO (B:=w.heap.size) rs w' k1 (fun x hx=>⟨(k3 x hx).1,(k3 x hx).2.2⟩) (fun w2 hs2 hoth=> ?_)
  obtain ⟨X',T',g1,g2,g3,g4,g5,g5',g6,g7,g8⟩:=h1
  have h2':RS ⟨w.heap.size,none,Z'⟩ D' nu' s' { tmps:=a'.tmps,defers:=[] } w2:=⟨hs2.ro h2.ro,⟨h2.tm.len,fun i c x q1 q2=>hs2.ra (h2.tm.bA i c x q1 q2)⟩,⟨by rw [hs2.size];exact h2.fR.base,⟨[],Kb,rfl,fun x hx=>(by cases hx)⟩,fun l hl=>by cases hl⟩⟩
  obtain ⟨v,r,q1,q2,q3⟩:=uH h2' h3
  have ha2:ER X' w' w2:=⟨hs2.os,hs2.tape,hs2.output,Nat.le_of_eq hs2.size.symm,fun b _ hb=>hoth b (fun hbr=>hb (g2 b (k3 b hbr).2.1))⟩
  have hx2: ∀b,X' b→b<w2.heap.size∧(X' b∨w'.heap.size≤b):=fun b hb=>⟨by rw [hs2.size];exact g4 b (g3 b hb), .inl hb⟩
  refine ⟨v,q1,⟨v,rfl⟩,X',(fun b=>T' b∨(w'.heap.size≤b∧b<w2.heap.size)), ?_⟩
  rcases q3 with e|e
  ·rw [e] at g8;exact .inl (pr.nb g8.2 ha2 hx2)
  ·rw [e] at g8;exact .inr (pr.xd g8 ha2 hx2)
 refine wpIn_mono (fc (P:=P) hmx (f:=⟨w.heap.size,none,fun _=>False⟩) (wB P oI.length pr) (fun l hl=>by cases hl) (IV _) c hok _ _ w D nu (fun _=>False) _ (fun (e:Exit) a' w'=>e ≠ .outgrown∧bodyPostM (WF none) 9 P fn (fun e w'=>(∃v,e = .returned v)∧ ∃X' T',pr.J [] X' T' w'∨pr.Jx X' T' w') e a' w') (fun a w hh=>hh.1 rfl) hM hs (h l) (fun e D' Z' s' a' w' nu' h1 h2 h3=> ?_)) (fun e a w hh=>hh.2)
 cases e with
 | ret=>exact ⟨by simp [aH.real],fin D' Z' s' a' w' nu' h1 h2 h3⟩
 | normal=>exact ⟨by simp [aH.real],fin D' Z' s' a' w' nu' h1 h2 h3⟩
 | exit id=>exact h3.elim
 | goto l=>exact h3.elim
end
end Go.Proofs.YtldnlbcibmmbbaaGreat
/-! The abstract walk: ranges over iterators, from the loop's side. -/
namespace Go.Proofs.YtldnlbcibmmbbaaGreat
open Go.RowKit
mutual
theorem AV.xl {n m:Nat} (h:n≤m): ∀a:AV,a.wf n=true→a.wf m=true
 | .undef,_=>rfl
 | .v _,_=>rfl
 | .agg cs,ha=>by simp only [AV.wf] at ha ⊢; exact dT h cs ha
 | .dN cs,ha=>by simp only [AV.wf] at ha ⊢; exact dT h cs ha
 | .an _ rows _,ha=>by simp only [AV.wf] at ha ⊢; exact v5 h rows ha
 | .vp cs,ha=>by simp only [AV.wf] at ha ⊢; exact dT h cs ha
 | .ptr id _ _ _ _,ha=>by simp only [AV.wf,decide_eq_true_eq] at ha ⊢; omega
 | .vec id _,ha=>by simp only [AV.wf,decide_eq_true_eq] at ha ⊢; omega
 | .fn _ f c,ha=>by
  simp only [AV.wf,JL] at ha ⊢
  exact ⟨dT h f ha.1,dT h c ha.2⟩
 | .full a,ha=>by simp only [AV.wf] at ha ⊢; exact AV.xl h a ha
 | .aV p a,ha=>by simp only [AV.wf] at ha ⊢; exact AV.xl h a ha
 | .mp rows,ha=>by simp only [AV.wf] at ha ⊢; exact v5 h rows ha
theorem dT {n m:Nat} (h:n≤m): ∀l:List AV,bB n l=true→bB m l=true
 | [],_=>rfl
 | a :: l,ha=>by
  simp only [bB,JL] at ha ⊢
  exact ⟨AV.xl h a ha.1,dT h l ha.2⟩
theorem v5 {n m:Nat} (h:n≤m): ∀l:List (List AV),ct n l=true→ct m l=true
 | [],_=>rfl
 | a :: l,ha=>by
  simp only [ct,JL] at ha ⊢
  exact ⟨dT h a ha.1,v5 h l ha.2⟩
end
section
variable {D D':Nat→Prop} {nu:Nat→Nat→Value} {o:List (Option ab)} {w w':World} {P:Program}
theorem yC (m:WM P) {f:Fr} {t:List AV} {a:Act} {C Z Z':Nat→Prop} {y:je} (h:m.M D nu o Z y w) (hs:RS f D nu ⟨t,o,y⟩ a w) (e1:w'.os=w.os) (e2:w'.tape=w.tape) (e3:w'.output=w.output) (hsz:w.heap.size≤w'.heap.size)
  (same: ∀b,b<w.heap.size→ ¬C b→w'.heap[b]? = w.heap[b]?) (hC: ∀b,C b→Z b∧ ¬f.Z b∧f.r≠some b) (hDn: ∀b,b<w.heap.size→D b→D' b) (hup: ∀b,w'.heap.size≤b→D' b) (hD1: ∀b,D' b→D b∨Z b)
  (hD2: ∀b,w.heap.size≤b→b<w'.heap.size→D' b∨Z' b) (hZ': ∀b,Z' b→b<w'.heap.size∧ ¬D' b∧(Z b∨w.heap.size≤b)):m.M D' nu o Z' y w'∧RS f D' nu ⟨t,o,y⟩ a w':=by
 have hz:=m.kV h
 have DC: ∀b,D b→ ¬C b:=fun b d c=>(hz.1 b (hC b c).1).2 d
 have hF: ∀b,Fz D nu o w b→w'.heap[b]? = w.heap[b]? ∧Fz D' nu o w' b:=fun b hf=>⟨same b hf.1 (DC b hf.2.2),IX hf.1 hsz,hf.2.1,hDn b hf.1 hf.2.2⟩
 have hro':RO D' nu o w':=hs.ro.keep (fun b hb=>⟨same b (hs.ro.aF hb) (DC b (hs.ro.eE hb)),hDn b (hs.ro.aF hb) (hs.ro.eE hb)⟩) hup hF
 refine ⟨m.step h hs.ro ⟨e1,e2,e3,hsz,fun id len _ hh=>⟨hh,rfl⟩,fun b hb hno hnz=>⟨same b hb (fun c=>hnz (hC b c).1),hno⟩⟩ hro' (fun c v hr _=>hr.keep hF) hD1 (fun b hb=> ?_) (fun b hb=>⟨(hZ' b hb).1,(hZ' b hb).2.1,(hZ' b hb).2.2.elim .inl (fun q=> .inr (.inr q))⟩) hz.2.1,hro',⟨hs.tm.len,fun i c x q1 q2=>(hs.tm.bA i c x q1 q2).keep hF⟩,
  hs.fR.keep hsz (fun b ob hb hob _=>(same b (IY.1 hob).1 (fun c=> ?_)).trans hob)⟩
 ·rcases I2 b w.heap.size with q|q
  ·exact .inl (hDn b q hb)
  ·rcases I2 b w'.heap.size with q'|q'
   ·exact hD2 b q q'
   ·exact .inl (hup b q')
 ·rcases hb with q|q
  ·exact (hC b c).2.1 q
  ·exact (hC b c).2.2 q
structure Core (m:WM P) (f:Fr) (N l:Nat) (t0:List AV) (a:Act) (St:Nat→Prop) (q:Loop) (D:Nat→Prop) (nu:Nat→Nat→Value) (o:List (Option ab)) (y:je) (X T:Nat→Prop) (w:World):Prop where
 mm:m.M D nu o (fun b=>f.Z b∨X b∨b=l) y w
 rs:RS f D nu ⟨t0,o,y⟩ a w
 xz: ∀b,X b→ ¬f.Z b∧b≠l
 xt: ∀b,X b→T b
 tl: ∀b,T b→b<w.heap.size
 td: ∀b,T b→ ¬X b→D b
 to: ∀b,T b→ ¬owned nu o b
 st: ∀b,St b→D b∧ ¬owned nu o b∧b<w.heap.size
 jA:w.heap[l]? = some (.loop q)
 n:N≤o.length
variable {m:WM P} {f:Fr} {N l:Nat} {t0:List AV} {a:Act} {St:Nat→Prop} {q:Loop} {y:je} {X T:Nat→Prop}
theorem Core.Ei (h:Core m f N l t0 a St q D nu o y X T w) (hZr: ∀l,f.r=some l→m.fix l) {b:Nat} (hb:X b∨b=l):f.r≠some b:=fun e=>
 ((m.kV h.mm).2.2 b (hZr b e)).2.1 (.inr hb)
theorem Core.nb (h:Core m f N l t0 a St q D nu o y X T w) (hZr: ∀l,f.r=some l→m.fix l) {X':Nat→Prop} (ha:ER X w w') (hx: ∀b,X' b→b<w'.heap.size∧(X b∨w.heap.size≤b)) :
  Core m f N l t0 a St q (fun b=>(D b∨X b)∧ ¬X' b) nu o y X' (fun b=>T b∨(w.heap.size≤b∧b<w'.heap.size)) w':=by
 have hz:=m.kV h.mm
 have DX: ∀b,D b→ ¬X b:=fun b d x=>(hz.1 b (.inr (.inl x))).2 d
 have hll:l<w.heap.size:=(IY.1 h.jA).1
 have hup:=h.rs.ro.up
 have key:=yC (C:=X) (D':=fun b=>(D b∨X b)∧ ¬X' b) (Z':=fun b=>f.Z b∨X' b∨b=l) m h.mm h.rs ha.os ha.tape ha.output ha.size ha.same (fun b hb=>⟨.inr (.inl hb),(h.xz b hb).1,h.Ei hZr (.inl hb)⟩)
  (fun b hb hd=>⟨.inl hd,fun hx'=>(hx b hx').2.elim (DX b hd) (by omega)⟩) (fun b hb=>⟨.inl (hup b (IW ha.size hb)),fun hx'=>by have:=(hx b hx').1;omega⟩)
  (fun b hd=>hd.1.elim .inl (fun x=> .inr (.inr (.inl x)))) (fun b hb _=>by
   by_cases hx':X' b
   ·exact .inr (.inr (.inl hx'))
   ·exact .inl ⟨.inl (hup b hb),hx'⟩)
  (fun b hb=>by
   rcases hb with hb|hb|hb
   ·have:=hz.1 b (.inl hb)
    refine ⟨IX this.1 ha.size,fun hd=> ?_, .inl (.inl hb)⟩
    rcases hd.1 with q|q
    ·exact this.2 q
    ·exact (h.xz b q).1 hb
   ·refine ⟨(hx b hb).1,fun hd=>hd.2 hb, ?_⟩
    rcases (hx b hb).2 with q|q
    ·exact .inl (.inr (.inl q))
    ·exact .inr q
   ·have:=hz.1 b (.inr (.inr hb))
    refine ⟨IX this.1 ha.size,fun hd=> ?_, .inl (.inr (.inr hb))⟩
    rcases hd.1 with q|q
    ·exact this.2 q
    ·exact (h.xz b q).2 hb)
 refine ⟨key.1,key.2,fun b hb=> ?_,fun b hb=> ?_,fun b hb=> ?_,fun b hb hnx=> ?_,fun b hb=> ?_,fun b hb=> ?_,(ha.same l hll (fun x=>(h.xz l x).2 rfl)).trans h.jA,h.n⟩
 ·rcases (hx b hb).2 with q|q
  ·exact h.xz b q
  ·exact ⟨fun hf=>by have:=(hz.1 b (.inl hf)).1;omega,by omega⟩
 ·rcases (hx b hb).2 with q|q
  ·exact .inl (h.xt b q)
  ·exact .inr ⟨q,(hx b hb).1⟩
 ·rcases hb with q|q
  ·exact IX (h.tl b q) ha.size
  ·exact q.2
 ·refine ⟨?_,hnx⟩
  rcases hb with q|q
  ·by_cases hxb:X b
   ·exact .inr hxb
   ·exact .inl (h.td b q hxb)
  ·exact .inl (hup b q.1)
 ·rcases hb with q|q
  ·exact h.to b q
  ·exact fun ho=>by have:=h.rs.ro.aF ho;omega
 ·obtain ⟨q1,q2,q3⟩:=h.st b hb
  exact ⟨⟨.inl q1,fun hx'=>(hx b hx').2.elim (DX b q1) (by omega)⟩,q2,IX q3 ha.size⟩
theorem Core.put (h:Core m f N l t0 a St q D nu o y X T w) (hZr: ∀l,f.r=some l→m.fix l) (hl: ¬f.Z l) (q':Loop):Core m f N l t0 a St q' D nu o y X T (w.putObj l (.loop q')):=by
 have hz:=m.kV h.mm
 have hll:l<w.heap.size:=(IY.1 h.jA).1
 have key:=yC (C:=fun b=>b=l) (D':=D) (Z':=fun b=>f.Z b∨X b∨b=l) (w':=w.putObj l (.loop q')) m h.mm h.rs rfl rfl rfl (by simp) (fun b hb hne=>World.putObj_heap_other hne) (fun b hb=>⟨.inr (.inr hb),by rw [hb];exact hl,h.Ei hZr (.inr hb)⟩)
  (fun b hb hd=>hd) (fun b hb=>h.rs.ro.up b (by simpa using hb)) (fun b hd=> .inl hd) (fun b hb hb'=>absurd hb' (by simp;omega)) (fun b hb=>⟨by simpa using (hz.1 b hb).1,(hz.1 b hb).2, .inl hb⟩)
 exact ⟨key.1,key.2,h.xz,h.xt,fun b hb=>by simpa using h.tl b hb,h.td,h.to,fun b hb=>⟨(h.st b hb).1,(h.st b hb).2.1,by simpa using (h.st b hb).2.2⟩,World.putObj_heap_same hll,h.n⟩
theorem Core.Cl (h:Core m f N l t0 a St q D nu o y X T w) (hmn:m.n0≤N) {o':List (Option ab)} {y':je} (hk:Wk N ⟨t0,o,y⟩ ⟨t0,o',y'⟩):Core m f N l t0 a St q D nu o' y' X T w:=by
 have hz:=m.kV h.mm
 have hy:y=y':=hk.y
 subst hy
 have hs2:=jm hk h.rs
 have hno: ∀b,b<w.heap.size→ ¬owned nu o b→ ¬owned nu o' b:=fun b hb hn=>((hk.rG (nu:=nu) (w:=w) (Z:=fun _=>False)).keep b hb hn (fun h=>h)).2
 exact ⟨m.step h.mm h.rs.ro hk.rG hs2.ro (fun c v hr hc=>hk.ra hr hc) (fun _ h=> .inl h) (fun _ h=> .inl h) (fun b hb=>⟨(hz.1 b hb).1,(hz.1 b hb).2, .inl hb⟩) (IW hmn hk.n),hs2,h.xz,h.xt,h.tl,h.td,fun b hb=>hno b (h.tl b hb) (h.to b hb),fun b hb=>⟨(h.st b hb).1,hno b (h.st b hb).2.2 (h.st b hb).2.1,(h.st b hb).2.2⟩,h.jA,hk.n⟩
theorem Core.done (h:Core m f N l t0 a St q D nu o y X T w) (hZr: ∀l,f.r=some l→m.fix l) (hl: ¬f.Z l) (q':Loop):m.M (fun b=>D b∨X b∨b=l) nu o f.Z y (w.putObj l (.loop q'))∧RS f (fun b=>D b∨X b∨b=l) nu ⟨t0,o,y⟩ a (w.putObj l (.loop q')):=by
 have hz:=m.kV h.mm
 refine yC (C:=fun b=>b=l) m h.mm h.rs rfl rfl rfl (by simp) (fun b hb hne=>World.putObj_heap_other hne) (fun b hb=>⟨.inr (.inr hb),by rw [hb];exact hl,h.Ei hZr (.inr hb)⟩)
  (fun b hb hd=> .inl hd) (fun b hb=> .inl (h.rs.ro.up b (by simpa using hb))) (fun b hd=>hd.elim .inl (fun q=> .inr (.inr q))) (fun b hb hb'=>absurd hb' (by simp;omega)) (fun b hb=>⟨by simpa using (hz.1 b (.inl hb)).1,fun hd=> ?_, .inl (.inl hb)⟩)
 rcases hd with q|q|q
 ·exact (hz.1 b (.inl hb)).2 q
 ·exact (h.xz b q).1 hb
 ·rw [q] at hb;exact hl hb
structure fx (m:WM P) (f:Fr) (N l:Nat) (t0:List AV) (a:Act) (St X T:Nat→Prop) (w0:World) (q:Loop) (D:Nat→Prop) (nu:Nat→Nat→Value) (o:List (Option ab)) (Z:Nat→Prop) (y:je) (w:World):Prop where
 mm:m.M D nu o (fun b=>Z b∨(f.Z b∨X b∨b=l)) y w
 zz: ∀b,f.Z b∨X b∨b=l→ ¬Z b
 tm:gb D nu o w t0 a.tmps
 fR:FR f a.defers w
 jA:w.heap[l]? = some (.loop q)
 os:w.os=w0.os
 tape:w.tape=w0.tape
 output:w.output=w0.output
 size:w0.heap.size≤w.heap.size
 same: ∀b,T b∨St b→w.heap[b]? = w0.heap[b]?
 xz: ∀b,X b→ ¬f.Z b∧b≠l
 xt: ∀b,X b→T b
 tl: ∀b,T b→b<w0.heap.size
 td: ∀b,T b→ ¬X b→D b
 to: ∀b,T b→ ¬owned nu o b
 st: ∀b,St b→D b∧ ¬owned nu o b∧b<w0.heap.size
 n:N≤o.length
theorem Core.round (h:Core m f N l t0 a St q D nu o y X T w):fx m f N l t0 a St X T w q D nu o (fun _=>False) y w:=by
 have e:(fun b=>False∨(f.Z b∨X b∨b=l))=(fun b=>f.Z b∨X b∨b=l):=by funext b;simp
 exact ⟨by rw [e];exact h.mm,fun _ _ h=>h,h.rs.tm,h.rs.fR,h.jA,rfl,rfl,rfl,IV _,fun _ _=>rfl,h.xz,h.xt,h.tl,h.td,h.to,h.st,h.n⟩
variable {w0:World} {Z:Nat→Prop}
theorem fx.step (hmn:m.n0≤N) (hZr: ∀l,f.r=some l→m.fix l) (ht0: ∀(i:Nat) c,t0[i]? = some c→c.wf N=true) {nu':Nat→Nat→Value} {o':List (Option ab)} {Z':Nat→Prop}
  (h:fx m f N l t0 a St X T w0 q D nu o Z y w) (hro:RO D nu o w) (hm:kC Z nu o w nu' o' w') (hro':RO D' nu' o' w') (hra: ∀c v,RA D nu o w c v→c.wf o'.length=true→RA D' nu' o' w' c v) (hD1: ∀b,D' b→D b∨Z b) (hD2: ∀b,D b→D' b∨Z' b)
  (hZ: ∀b,Z' b→b<w'.heap.size∧ ¬D' b∧(Z b∨owned nu o b∨w.heap.size≤b)) (hn:N≤o'.length):fx m f N l t0 a St X T w0 q D' nu' o' Z' y w':=by
 have hz:=m.kV h.mm
 have nD: ∀b,f.Z b∨X b∨b=l→b<w.heap.size∧ ¬D b:=fun b hb=>hz.1 b (.inr hb)
 have nO: ∀b,f.Z b∨X b∨b=l→ ¬owned nu o b:=fun b hb ho=>(nD b hb).2 (hro.eE ho)
 have nZ': ∀b,f.Z b∨X b∨b=l→ ¬Z' b:=fun b hb hz'=>by
  rcases (hZ b hz').2.2 with q|q|q
  ·exact h.zz b hb q
  ·exact nO b hb q
  ·have:=(nD b hb).1;omega
 have nD': ∀b,f.Z b∨X b∨b=l→ ¬D' b:=fun b hb hd=>by
  rcases hD1 b hd with q|q
  ·exact (nD b hb).2 q
  ·exact h.zz b hb q
 have keepF: ∀b,f.Z b∨X b∨b=l→w'.heap[b]? = w.heap[b]? ∧ ¬owned nu' o' b:=fun b hb=>hm.keep b (nD b hb).1 (nO b hb) (h.zz b hb)
 have stay: ∀b,b<w.heap.size→D b→ ¬owned nu o b→(w'.heap[b]? = w.heap[b]? ∧ ¬owned nu' o' b)∧D' b:=fun b hb hd hno=>by
  have hnz: ¬Z b:=fun hz'=>(hz.1 b (.inl hz')).2 hd
  refine ⟨hm.keep b hb hno hnz, ?_⟩
  rcases hD2 b hd with q|q
  ·exact q
  ·rcases (hZ b q).2.2 with r|r|r
   ·exact absurd r hnz
   ·exact absurd r hno
   ·omega
 have hTS: ∀b,T b∨St b→(w'.heap[b]? = w.heap[b]? ∧ ¬owned nu' o' b)∧(D b→D' b):=fun b hb=>by
  have hs0:=h.size
  rcases hb with q|q
  ·have hlt:=h.tl b q
   by_cases hx:X b
   ·exact ⟨keepF b (.inr (.inl hx)),fun hd=>absurd hd (nD b (.inr (.inl hx))).2⟩
   ·obtain ⟨r1,r2⟩:=stay b (by omega) (h.td b q hx) (h.to b q)
    exact ⟨r1,fun _=>r2⟩
  ·obtain ⟨k1,k2,k3⟩:=h.st b q
   obtain ⟨r1,r2⟩:=stay b (by omega) k1 k2
   exact ⟨r1,fun _=>r2⟩
 refine ⟨m.step h.mm hro ⟨hm.os,hm.tape,hm.output,hm.size,hm.kz,fun b h1 h2 h3=>hm.keep b h1 h2 (fun hz'=>h3 (.inl hz'))⟩ hro' hra (fun b hd=>(hD1 b hd).elim .inl (fun q=> .inr (.inl q))) (fun b hd=>(hD2 b hd).elim .inl (fun q=> .inr (.inl q))) (fun b hb=> ?_) (IW hmn hn),nZ',⟨h.tm.len,fun i c x q1 q2=>hra c x (h.tm.bA i c x q1 q2) (AV.xl hn c (ht0 i c q1))⟩,
  h.fR.keep hm.size (fun b ob hb hob _=> ?_),(keepF l (.inr (.inr rfl))).1.trans h.jA,hm.os.trans h.os,hm.tape.trans h.tape,hm.output.trans h.output,IW h.size hm.size,fun b hb=>(hTS b hb).1.1.trans (h.same b hb),h.xz,h.xt,h.tl,fun b hb hx=>(hTS b (.inl hb)).2 (h.td b hb hx),fun b hb=>(hTS b (.inl hb)).1.2,fun b hb=>⟨(hTS b (.inr hb)).2 (h.st b hb).1,(hTS b (.inr hb)).1.2,(h.st b hb).2.2⟩,hn⟩
 ·rcases hb with q|q
  ·obtain ⟨r1,r2,r3⟩:=hZ b q
   exact ⟨r1,r2,r3.elim (fun r=> .inl (.inl r)) .inr⟩
  ·exact ⟨IX (nD b q).1 hm.size,nD' b q, .inl (.inr q)⟩
 ·rcases hb with q|q
  ·exact (keepF b (.inl q)).1.trans hob
  ·obtain ⟨k1,k2,k3⟩:=hz.2.2 b (hZr b q)
   exact (hm.keep b k1 (jh hro hob (by assumption)) (fun hz'=>k2 (.inl hz'))).1.trans hob
theorem fx.others (hZr: ∀l,f.r=some l→m.fix l) {y':je} (h:fx m f N l t0 a St X T w0 q D nu o Z y w) (hro:RO D nu o w) (e1:w'.os=w.os) (e2:w'.tape=w.tape) (e3:w'.output=w.output) (hsz:w.heap.size≤w'.heap.size)
  (hk: ∀b,b<w.heap.size→D b∨(Z b∨(f.Z b∨X b∨b=l))∨owned nu o b∨m.fix b→w'.heap[b]? = w.heap[b]?) (hM:m.M (fun b=>D b∧ ¬(w.heap.size≤b∧b<w'.heap.size)) nu o (fun b=>Z b∨(f.Z b∨X b∨b=l)) y' w') :
  fx m f N l t0 a St X T w0 q (fun b=>D b∧ ¬(w.heap.size≤b∧b<w'.heap.size)) nu o Z y' w':=by
 have hz:=m.kV h.mm
 have hs0:=h.size
 have hF: ∀b,Fz D nu o w b→w'.heap[b]? = w.heap[b]? ∧Fz (fun b=>D b∧ ¬(w.heap.size≤b∧b<w'.heap.size)) nu o w' b:=fun b hf=>⟨hk b hf.1 (.inl hf.2.2),IX hf.1 hsz,hf.2.1,hf.2.2,fun hh=>by have:=hf.1;omega⟩
 refine ⟨hM,h.zz,⟨h.tm.len,fun i c x q1 q2=>(h.tm.bA i c x q1 q2).keep hF⟩,h.fR.keep hsz (fun b ob hb hob _=>(hk b (IY.1 hob).1 ?_).trans hob),(hk l (hz.1 l (.inr (.inr (.inr rfl)))).1 (.inr (.inl (.inr (.inr (.inr rfl)))))).trans h.jA,e1.trans h.os,e2.trans h.tape,e3.trans h.output,IW h.size hsz,fun b hb=> ?_,h.xz,h.xt,h.tl,
  fun b hb hx=>⟨h.td b hb hx,fun hh=>by have:=h.tl b hb;omega⟩,h.to,fun b hb=>⟨⟨(h.st b hb).1,fun hh=>by have:=(h.st b hb).2.2;omega⟩,(h.st b hb).2⟩,h.n⟩
 ·rcases hb with q|q
  ·exact .inr (.inl (.inr (.inl q)))
  ·exact .inr (.inr (.inr (hZr b q)))
 ·refine (hk b ?_ ?_).trans (h.same b hb)
  ·rcases hb with q|q
   ·have:=h.tl b q;omega
   ·have:=(h.st b q).2.2;omega
  ·rcases hb with q|q
   ·by_cases hx:X b
    ·exact .inr (.inl (.inr (.inr (.inl hx))))
    ·exact .inl (h.td b q hx)
   ·exact .inl (h.st b q).1
def Au (P:Program) (m:WM P) (f:Fr) (N l:Nat) (t0:List AV) (a:Act) (St X T:Nat→Prop) (w0:World) (q:Loop) (hmn:m.n0≤N) (hZr: ∀l,f.r=some l→m.fix l) (ht0: ∀(i:Nat) c,t0[i]? = some c→c.wf N=true):WM P where
 n0:=N
 fix:=fun b=>m.fix b∨f.Z b∨X b∨b=l
 M:=fx m f N l t0 a St X T w0 q
 step:=fun h hro hm hro' hra hD1 hD2 hZ hn=>h.step hmn hZr ht0 hro hm hro' hra hD1 hD2 hZ hn
 kV:=fun h=>by
  have hz:=m.kV h.mm
  refine ⟨fun b hb=>hz.1 b (.inl hb),h.n,fun b hb=> ?_⟩
  rcases hb with q|q
  ·obtain ⟨k1,k2,k3⟩:=hz.2.2 b q
   exact ⟨k1,fun hh=>k2 (.inl hh),k3⟩
  ·exact ⟨(hz.1 b (.inr q)).1,h.zz b q,(hz.1 b (.inr q)).2⟩
 yield:=fun {D nu o Z l' x rest w vals} h hro hra hw=>by
  obtain ⟨fn,tmps,assign,body,hrun,hround⟩:=m.yield h.mm hro hra hw
  refine ⟨fn,tmps,assign,body,hrun,hround.mono fun e w' he=> ?_⟩
  obtain ⟨⟨e1,e2,e3,hsz,hk⟩,he⟩:=he
  refine ⟨⟨e1,e2,e3,hsz,fun b hb hh=>hk b hb ?_⟩, ?_⟩
  ·rcases hh with q|q|q|q|q
   ·exact .inl q
   ·exact .inr (.inl (.inl q))
   ·exact .inr (.inr (.inl q))
   ·exact .inr (.inr (.inr q))
   ·exact .inr (.inl (.inr q))
  ·rcases he with ⟨rfl,hM⟩|⟨rfl,hM⟩
   ·exact .inl ⟨rfl,h.others hZr hro e1 e2 e3 hsz hk hM⟩
   ·exact .inr ⟨rfl,h.others hZr hro e1 e2 e3 hsz hk hM⟩
theorem fx.close (h:fx m f N l t0 a St X T w0 q D nu o Z y w) (hro:RO D nu o w):Core m f N l t0 a St q (fun b=>D b∨Z b) nu o y X T w:=by
 have hz:=m.kV h.mm
 have hs0:=h.size
 have key:=yC (C:=fun _=>False) (D':=fun b=>D b∨Z b) (Z':=fun b=>f.Z b∨X b∨b=l) (w':=w) (t:=t0) (a:=a) (f:=f) m h.mm ⟨hro,h.tm,h.fR⟩ rfl rfl rfl (IV _) (fun b hb _=>rfl) (fun b hb=>hb.elim) (fun b hb hd=> .inl hd) (fun b hb=> .inl (hro.up b hb)) (fun b hd=>hd.elim .inl (fun q=> .inr (.inl q)))
  (fun b h1 h2=>by omega) (fun b hb=>⟨(hz.1 b (.inr hb)).1,fun hd=>hd.elim (hz.1 b (.inr hb)).2 (h.zz b hb), .inl (.inr hb)⟩)
 exact ⟨key.1,key.2,h.xz,h.xt,fun b hb=>by have:=h.tl b hb;omega,fun b hb hx=> .inl (h.td b hb hx),h.to,fun b hb=>⟨.inl (h.st b hb).1,(h.st b hb).2.1,by have:=(h.st b hb).2.2;omega⟩,h.jA,h.n⟩
theorem fx.put (hZr: ∀l,f.r=some l→m.fix l) (hl: ¬f.Z l) {f':Fr} {t:List AV} {a':Act} (hf':f'.r=some l∧f'.B=0∧f'.Z=Z) (h:fx m f N l t0 a St X T w0 q D nu o Z y w) (hs:RS f' D nu ⟨t,o,y⟩ a' w) (q':Loop) (hT: ∀b,T b∨St b→b≠l) :
  fx m f N l t0 a St X T w0 q' D nu o Z y (w.putObj l (.loop q'))∧RS f' D nu ⟨t,o,y⟩ a' (w.putObj l (.loop q')):=by
 have hz:=m.kV h.mm
 have hll:l<w.heap.size:=(IY.1 h.jA).1
 have hrl:f.r≠some l:=fun e=>(hz.2.2 l (hZr l e)).2.1 (.inr (.inr (.inr rfl)))
 have hsz:(w.putObj l (.loop q')).heap.size=w.heap.size:=by simp
 have key:=yC (C:=fun b=>b=l) (D':=D) (Z':=fun b=>Z b∨(f.Z b∨X b∨b=l)) (w':=w.putObj l (.loop q')) (t:=t0) (a:=a) (f:=f) m h.mm ⟨hs.ro,h.tm,h.fR⟩ rfl rfl rfl (by simp) (fun b hb hne=>World.putObj_heap_other hne) (fun b hb=>⟨.inr (.inr (.inr hb)),by rw [hb];exact hl,by rw [hb];exact hrl⟩)
  (fun b hb hd=>hd) (fun b hb=>hs.ro.up b (by simpa using hb)) (fun b hd=> .inl hd) (fun b hb hb'=>absurd hb' (by simp;omega)) (fun b hb=>⟨by simpa using (hz.1 b hb).1,(hz.1 b hb).2, .inl hb⟩)
 have hF: ∀b,Fz D nu o w b→(w.putObj l (.loop q')).heap[b]? = w.heap[b]? ∧Fz D nu o (w.putObj l (.loop q')) b:=fun b hf=>⟨World.putObj_heap_other (fun e=>by rw [e] at hf;exact (hz.1 l (.inr (.inr (.inr rfl)))).2 hf.2.2),by rw [hsz];exact hf.1,hf.2⟩
 refine ⟨⟨key.1,h.zz,key.2.tm,key.2.fR,World.putObj_heap_same hll,h.os,h.tape,h.output,by rw [hsz];exact h.size,fun b hb=>(World.putObj_heap_other (hT b hb)).trans (h.same b hb),h.xz,h.xt,h.tl,h.td,h.to,h.st,h.n⟩,key.2.ro,⟨hs.tm.len,fun i c x q1 q2=>(hs.tm.bA i c x q1 q2).keep hF⟩, ?_⟩
 obtain ⟨rs,k1,k2,k3⟩:=hs.fR.marks
 refine ⟨by rw [hf'.2.1];exact Nat.zero_le _,⟨rs,k1,k2,fun x hx=>⟨(k3 x hx).1,(k3 x hx).2.1,(World.putObj_heap_other (fun e=> ?_)).trans (k3 x hx).2.2⟩⟩,fun l' hl'=> ?_⟩
 ·have:=(k3 x hx).2.1
  rw [hf'.2.2,e] at this
  exact h.zz l (.inr (.inr rfl)) this
 ·rw [hf'.1] at hl';cases hl'
  exact ⟨q',World.putObj_heap_same hll⟩
def gH (ps:List Nat) (x t:List AV):List AV:=(ps.zip x).foldl (fun t pv=>t.set pv.1 pv.2) t
theorem pw: ∀(ps:List Nat) (x t:List AV) (vs:List Value) (tmps:Array Value),gb D nu o w t tmps→x.length=vs.length→(∀(i:Nat) c v,x[i]? = some c→vs[i]? = some v→RA D nu o w c v)→gb D nu o w (gH ps x t) ((ps.zip vs).foldl (fun tmps p=>tmps.setIfInBounds p.1 p.2) tmps)
 | [],x,t,vs,tmps,h,_,_=>by simpa [gH] using h
 | p :: ps,[],t,[],tmps,h,_,_=>by simpa [gH] using h
 | p :: ps,c :: x,t,v :: vs,tmps,h,hl,hx=>by
  have h1:gb D nu o w (t.set p c) (tmps.setIfInBounds p v):=by
   refine ⟨by simpa using h.len,fun i c' v' q1 q2=> ?_⟩
   by_cases hd:p=i
   ·subst hd
    have hlt:=(I0.1 q1).1
    simp only [List.length_set] at hlt
    rw [List.getElem?_set_self hlt] at q1
    rw [Array.getElem?_setIfInBounds_self_of_lt (by have:=h.len;omega)] at q2
    cases q1;cases q2
    exact hx 0 c v rfl rfl
   ·rw [List.getElem?_set_ne hd] at q1
    rw [Array.getElem?_setIfInBounds_ne hd] at q2
    exact h.bA i c' v' q1 q2
  exact pw ps x _ vs _ h1 (by simpa using hl) (fun i c' v' q1 q2=>hx (i+1) c' v' (by simpa using q1) (by simpa using q2))
 | p :: ps,[],t,v :: vs,tmps,_,hl,_=>by simp at hl
 | p :: ps,c :: x,t,[],tmps,_,hl,_=>by simp at hl
def aH.code:aH→Code
 | .normal=> .skip
 | .exit id=> .exit id
 | .goto l=> .goto l
 | .ret=> .ret
def mT (N:Nat) (t0:List AV) (p:Prop) (o':List (Option ab)) (y':je) (Q:aH→AS→Prop) (e:aH) (s:AS):Prop:=match e with
 | .normal=>p∧Wk N ⟨t0,s.o,s.y⟩ ⟨t0,o',y'⟩
 | e=>Q e ⟨t0,s.o,s.y⟩
def p8 (P:Program) (N:Nat) (body:Code) (R:aH→AS→Prop) (e:aH) (s:AS):Prop:=match e with
 | .normal=>bZ P N body s R
 | _=>False
def ve (hmx:P.follows .mixedOrders=true) (m:WM P) (f:Fr) (N l:Nat) (t0:List AV) (a:Act) (St:Nat→Prop) (q:Loop) (O:Nat→List (Option ab)) (Y:Nat→je) (ok:Nat→Prop) (L:List (List AV)) (Q:aH→AS→Prop) (hmn:m.n0≤N) (hZr: ∀l,f.r=some l→m.fix l) (hl: ¬f.Z l) (ht0: ∀(i:Nat) c,t0[i]? = some c→c.wf N=true)
  (hq:q.state = .ready∧q.pending=none∧q.tmps=a.tmps) (hA:bC q.assign=true) (hB:bC q.body=true) (har: ∀x,x∈L→x.length=q.params.size)
  (hround: ∀k x,ok k→L[k]? = some x→bZ P N q.assign ⟨gH q.params.toList x t0,O k,Y k⟩ (p8 P N q.body (mT N t0 (ok (k+1)) (O (k+1)) (Y (k+1)) Q))):uI P l where
 J:=fun rest X T w=> ∃k D nu,rest=L.drop k∧(k≤L.length∧ok k)∧Core m f N l t0 a St q D nu (O k) (Y k) X T w
 Jx:=fun X T w=> ∃e D nu o y,e ≠ .normal∧Q e ⟨t0,o,y⟩∧Core m f N l t0 a St { q with state:= .done,pending:=some e.code } D nu o y X T w
 St:=St
 nb:=fun h ha hx=>by
  obtain ⟨k,D,nu,h1,h2,h3⟩:=h
  exact ⟨k,_,nu,h1,h2,h3.nb hZr ha hx⟩
 xd:=fun h ha hx=>by
  obtain ⟨e,D,nu,o,y,h1,h2,h3⟩:=h
  exact ⟨e,_,nu,o,y,h1,h2,h3.nb hZr ha hx⟩
 round:=fun {x rest X T w D nu vals} hJ hra hw hD=>by
  obtain ⟨k,Dc,nuc,hrest,⟨hk,hok⟩,hc⟩:=hJ
  have hlt:k<L.length:=by
   rcases I2 k L.length with h|h
   ·exact h
   ·rw [List.drop_eq_nil_of_le h] at hrest;cases hrest
  rw [Kc hlt] at hrest
  obtain ⟨hx,hrest⟩:=List.cons.inj hrest
  have hxk:L[k]? = some x:=by rw [hx];exact Je hlt
  have hz:=m.kV hc.mm
  have hra':gb Dc nuc (O k) w x vals:=⟨hra.len,fun i c v q1 q2=>(hra.bA i c v q1 q2).tr (n:=0) (fun b hf=>by
   obtain ⟨h1,h2⟩:=hD b hf.1 hf.2.2
   rcases h1 with h1|h1
   ·exact ⟨hf.1,hc.to b h1,hc.td b h1 h2⟩
   ·exact ⟨hf.1,(hc.st b h1).2.1,(hc.st b h1).1⟩) (fun id len hlt=>by omega) (br hw q1)⟩
  have hTl: ∀b,T b∨St b→b≠l:=fun b hb e=>by
   have hnl: ¬Dc l:=(hz.1 l (.inr (.inr rfl))).2
   rcases hb with h|h
   ·by_cases hxb:X b
    ·exact (hc.xz b hxb).2 e
    ·exact hnl (e ▸ hc.td b h hxb)
   ·exact hnl (e ▸ (hc.st b h).1)
  have hlen:vals.size=q.params.size:=by rw [←hra.len,har x (Jz hxk)]
  refine ⟨q.fn,_,q.assign,q.body,run_yield hc.jA hlen,roundIn_of_wpIn trivial ?_⟩
  have htm:gb Dc nuc (O k) w (gH q.params.toList x t0) ((q.params.zip vals).foldl (fun tmps (t,a)=>tmps.setIfInBounds t a) q.tmps):=by
   have:=pw q.params.toList x t0 vals.toList a.tmps hc.rs.tm (by simpa using hra.len) (fun i c v q1 q2=>hra'.bA i c v q1 (by simpa using q2))
   rw [←hq.2.2] at this
   rw [←Array.toList_zip,Array.foldl_toList] at this
   exact this
  have hs:RS ⟨0,some l,fun _=>False⟩ Dc nuc ⟨gH q.params.toList x t0,O k,Y k⟩ { tmps:=(q.params.zip vals).foldl (fun tmps (t,a)=>tmps.setIfInBounds t a) q.tmps,defers:=[] } w:=
   ⟨hc.rs.ro,htm,⟨Nat.zero_le _,⟨[],Kb,rfl,fun x hx=>(by cases hx)⟩,fun l' hl'=>by cases hl';exact ⟨q,hc.jA⟩⟩⟩
  refine AL (n:=9) (fc (f:=⟨0,some l,fun _=>False⟩) hmx (Au P m f N l t0 a St X T w q hmn hZr ht0) (fun l' hl'=>by cases hl';exact .inr (.inr (.inr rfl))) (IV N) q.assign hA ⟨gH q.params.toList x t0,O k,Y k⟩ _ w Dc nuc (fun _=>False) _ _ (fun a w h=>h) hc.round hs (hround k x hok hxk) (fun e D1 Z1 s1 a1 w1 nu1 h1 h2 h3=> ?_))
  cases e with
  | exit i=>exact h3.elim
  | goto i=>exact h3.elim
  | ret=>exact h3.elim
  | normal=>
   refine ⟨_,run_beginRound h1.jA hq.1, ?_⟩
   obtain ⟨h4,h5⟩:=h1.put hZr hl (f':=(Fr.mk 0 (some l) (fun _=>False)).wz Z1) ⟨rfl,rfl,rfl⟩ h2 { q with state:= .busy } hTl
   refine AL (n:=9) (fc (f:=⟨0,some l,fun _=>False⟩) hmx (Au P m f N l t0 a St X T w { q with state:= .busy } hmn hZr ht0) (fun l' hl'=>by cases hl';exact .inr (.inr (.inr rfl))) (IV N) q.body hB s1 a1 _ D1 nu1 Z1 _ _ (fun a w h=>h) h4 h5 h3 (fun e D2 Z2 s2 a2 w2 nu2 k1 k2 k3=> ?_))
   have hcl:=k1.close k2.ro
   have hkept: ∀q',AZ (fun b=>T b∨St b) w (w2.putObj l (.loop q')):=fun q'=>⟨k1.os,k1.tape,k1.output,by simpa using k1.size,fun b _ hb=>(World.putObj_heap_other (hTl b hb)).trans (k1.same b hb)⟩
   have jump: ∀e,e ≠ .normal→Q e ⟨t0,s2.o,s2.y⟩→ ∃v w',(Instr.endRound l (some e.code)).run P w2 = .ok v w'∧(AZ (fun b=>T b∨St b) w w'∧((Ending.returned v = .returned (.bool true)∧ ∃k D nu,rest=L.drop k∧(k≤L.length∧ok k)∧Core m f N l t0 a St q D nu (O k) (Y k) X T w')∨(Ending.returned v = .returned (.bool false)∧ ∃e D nu o y,e ≠ .normal∧Q e ⟨t0,o,y⟩∧Core m f N l t0 a St { q with state:= .done,pending:=some e.code } D nu o y X T w'))):=fun e he hQ=>by
    refine ⟨_,_,run_endRound (some e.code) k1.jA,hkept _, .inr ⟨rfl,e,(fun b=>D2 b∨Z2 b),nu2,s2.o,s2.y,he,hQ, ?_⟩⟩
    exact hcl.put hZr hl _
   cases e with
   | normal=>
    refine ⟨_,_,run_endRound none k1.jA,hkept _, .inl ⟨rfl,k+1,(fun b=>D2 b∨Z2 b),nu2,hrest,⟨hlt,k3.1⟩, ?_⟩⟩
    have:=(hcl.put hZr hl { q with state:= .ready,pending:=none }).Cl hmn k3.2
    have e:({ q with state:= .ready,pending:=none }:Loop)=q:=by
     obtain ⟨e1,e2,_⟩:=hq
     cases q;simp only at e1 e2;subst e1;subst e2;rfl
    rw [e] at this
    simp only [Option.isNone_none,if_true]
    have e':({ { q with state:= .busy } with state:= .ready,pending:=none }:Loop)=q:=e
    rw [e']
    exact this
   | exit i=>exact jump (.exit i) (by simp) k3
   | goto i=>exact jump (.goto i) (by simp) k3
   | ret=>exact jump .ret (by simp) k3
theorem wg (m:WM P) {f:Fr} {t:List AV} {a:Act} {o:List (Option ab)} {y:je} (hm:m.M D nu o f.Z y w) (hs:RS f D nu ⟨t,o,y⟩ a w) (fn:FuncId) (ps:Array Tmp) (assign body:Code) :
  ∃l mk w1 Z1 q D1,(Instr.enterLoop fn a.tmps ps assign body f.r).run P w = .ok (l,mk) w1∧(q.state = .ready∧q.pending=none∧q.tmps=a.tmps)∧(q.params=ps∧q.assign=assign∧q.body=body)∧ ¬Z1 l∧w1.heap[l]? = some (.loop q)∧Below w.heap.size w w1 ∧
   m.M D1 nu o (fun b=>Z1 b∨b=l) y w1∧RS (f.wz Z1) D1 nu ⟨t,o,y⟩ { a with defers:=mk++a.defers } w1∧(∀b,b<w.heap.size→D b→D1 b)∧(∀b,D1 b→D b)∧ ∀b,f.Z b→Z1 b:=by
 have hz:=m.kV hm
 have gen: ∀(w1:World) (Z1:Nat→Prop) (l:Nat),Below w.heap.size w w1→(∀b,f.Z b→Z1 b)→(∀b,Z1 b→f.Z b∨(w.heap.size≤b∧b<w1.heap.size))→w.heap.size≤l→l<w1.heap.size →
   m.M (fun b=>D b∧ ¬(Z1 b∨b=l)) nu o (fun b=>Z1 b∨b=l) y w1∧RS f (fun b=>D b∧ ¬(Z1 b∨b=l)) nu ⟨t,o,y⟩ a w1:=fun w1 Z1 l hb h1 h2 h3 h4=>by
  refine yC (C:=fun _=>False) m hm hs hb.os hb.tape hb.output hb.size (fun b hlt _=>hb.block b hlt) (fun b h=>h.elim) (fun b hlt hd=>⟨hd,fun hh=> ?_⟩) (fun b hge=>⟨hs.ro.up b (IW hb.size hge),fun hh=> ?_⟩) (fun b hd=> .inl hd.1) (fun b hge hlt=> ?_) (fun b hh=>⟨?_,fun hd=>hd.2 hh, ?_⟩)
  ·rcases hh with q|q
   ·rcases h2 b q with r|r
    ·exact (hz.1 b r).2 hd
    ·omega
   ·omega
  ·rcases hh with q|q
   ·rcases h2 b q with r|r
    ·have:=(hz.1 b r).1;have:=hb.size;omega
    ·omega
   ·omega
  ·by_cases hh:Z1 b∨b=l
   ·exact .inr hh
   ·exact .inl ⟨hs.ro.up b hge,hh⟩
  ·rcases hh with q|q
   ·rcases h2 b q with r|r
    ·exact IX (hz.1 b r).1 hb.size
    ·exact r.2
   ·omega
  ·rcases hh with q|q
   ·rcases h2 b q with r|r
    ·exact .inl r
    ·exact .inr r.1
   ·exact .inr (by omega)
 cases hr:f.r with
 | none=>
  obtain ⟨q,hq⟩: ∃q:Loop,q={ state:= .ready,pending:=none,fn,tmps:=a.tmps,params:=ps,assign,body,defers:=w.heap.size }:=⟨_,rfl⟩
  obtain ⟨w1,hw1⟩: ∃w1,w1=(w.alloc (.deferred (some []))).alloc (.loop q):=⟨_,rfl⟩
  have hb:Below w.heap.size w w1:=by rw [hw1];exact ((Below.refl _ w).alloc (IV _) _).alloc (by simp) _
  have hsz:w1.heap.size=w.heap.size+2:=by rw [hw1];simp
  have hL:w1.heap[w.heap.size+1]? = some (.loop q):=by
   rw [hw1];have:=World.alloc_heap_new (w.alloc (.deferred (some []))) (.loop q);rwa [World.size_alloc] at this
  have hK:w1.heap[w.heap.size]? = some (.deferred (some [])):=by
   rw [hw1];exact (Below.heap_alloc _ _ _ (by simp)).trans (World.alloc_heap_new w _)
  obtain ⟨g1,g2⟩:=gen w1 (fun b=>f.Z b∨b=w.heap.size) (w.heap.size+1) hb (fun b h=> .inl h) (fun b h=>h.elim .inl (fun e=> .inr (by omega))) (by omega) (by omega)
  refine ⟨w.heap.size+1,[wa w.heap.size],w1,(fun b=>f.Z b∨b=w.heap.size),q,_, ?_,by rw [hq];exact ⟨rfl,rfl,rfl⟩,by rw [hq];exact ⟨rfl,rfl,rfl⟩, ?_,hL,hb,g1,⟨g2.ro,g2.tm, ?_⟩, ?_,fun b hd=>hd.1,fun b h=> .inl h⟩
  ·rw [hw1,hq];exact run_enterLoop_outer _ _ _ _ _
  ·rintro (h|h)
   ·have:=(hz.1 _ h).1;omega
   ·omega
  ·obtain ⟨rs,k1,k2,k3⟩:=g2.fR.marks
   refine ⟨g2.fR.base,⟨w.heap.size :: rs,List.nodup_cons.2 ⟨fun hm=> ?_,k1⟩,by simp only [List.map_cons,List.singleton_append];rw [k2],fun x hx=> ?_⟩,g2.fR.loop⟩
   ·have:=(hz.1 _ (k3 _ hm).2.1).1;omega
   ·rcases List.mem_cons.1 hx with e|e
    ·subst e;exact ⟨hs.fR.base, .inr rfl,hK⟩
    ·exact ⟨(k3 x e).1, .inl (k3 x e).2.1,(k3 x e).2.2⟩
  ·refine fun b hlt hd=>⟨hd,fun hh=> ?_⟩
   rcases hh with (q|q)|q
   ·exact (hz.1 b q).2 hd
   ·omega
   ·omega
 | some l0=>
  obtain ⟨q0,hq0⟩:=hs.fR.loop l0 hr
  obtain ⟨q,hq⟩: ∃q:Loop,q={ state:= .ready,pending:=none,fn,tmps:=a.tmps,params:=ps,assign,body,defers:=q0.defers }:=⟨_,rfl⟩
  obtain ⟨w1,hw1⟩: ∃w1,w1=w.alloc (.loop q):=⟨_,rfl⟩
  have hb:Below w.heap.size w w1:=by rw [hw1];exact (Below.refl _ w).alloc (IV _) _
  have hsz:w1.heap.size=w.heap.size+1:=by rw [hw1];simp
  have hL:w1.heap[w.heap.size]? = some (.loop q):=by rw [hw1];exact World.alloc_heap_new w _
  obtain ⟨g1,g2⟩:=gen w1 f.Z w.heap.size hb (fun b h=>h) (fun b h=> .inl h) (by omega) (by omega)
  refine ⟨w.heap.size,[],w1,f.Z,q,_, ?_,by rw [hq];exact ⟨rfl,rfl,rfl⟩,by rw [hq];exact ⟨rfl,rfl,rfl⟩, ?_,hL,hb,g1,⟨g2.ro,g2.tm, ?_⟩, ?_,fun b hd=>hd.1,fun b h=>h⟩
  ·rw [hw1,hq];exact run_enterLoop_inner hq0 _ _ _ _ _
  ·intro h;have:=(hz.1 _ h).1;omega
  ·exact g2.fR.Ds (fun b h=>h)
  ·refine fun b hlt hd=>⟨hd,fun hh=> ?_⟩
   rcases hh with q|q
   ·exact (hz.1 b q).2 hd
   ·omega
theorem vM {n0:Nat} {s:AS} {Q:aH→AS→Prop} {g:Operand} {ps:Array Tmp} {assign body:Code} {gf:FuncId} {caps0:List AV} {oI:List (Option ab)} {L:List (List AV)} (hseq:uM P gf caps0 oI L) (ids:List Nat) (hnd:ids.Nodup)
  (hids:ids.map (fun i=>s.o[i]?)=oI.map (fun x=>some (x.map (ab.bF (sig ids s.o.length))))) (hwo: ∀(k:Nat) ob,oI[k]? = some (some ob)→ct ids.length ob.rows=true) (O:Nat→List (Option ab)) (Y:Nat→je) (ok:Nat→Prop) (h0:ok 0) (t0:List AV)
  (hg:s.ev g = .fn gf [] (cH (sig ids s.o.length) caps0)) (hcaps:bB ids.length caps0=true) (hdead: ∀i,i∈ids→ ∀ob,(O 0)[i]? ≠ some (some ob)) (hwk:Wk n0 s ⟨t0,O 0,Y 0⟩) (hA:bC assign=true) (hB:bC body=true) (har: ∀x,x∈L→x.length=ps.size)
  (hround: ∀k x,ok k→L[k]? = some x→bZ P (O 0).length assign ⟨gH ps.toList x t0,O k,Y k⟩ (p8 P (O 0).length body (mT (O 0).length t0 (ok (k+1)) (O (k+1)) (Y (k+1)) Q)))
  (hfin:ok L.length→Q .normal ⟨t0,O L.length,Y L.length⟩):bZ P n0 (.rangeFunc g ps assign body) s Q:=by
 intro f m D nu a w hZr hn hm hs hmx R hO hR
 have hgv:=hs.ev g
 rw [hg] at hgv
 obtain ⟨ca,hgv',hca⟩: ∃ca,a.eval g = .func (.func gf) #[] ca∧gb D nu s.o w (cH (sig ids s.o.length) caps0) ca:=by
  revert hgv
  generalize a.eval g=v
  intro hgv
  cases hgv with
  | fn _ _ _ fi ca h1 h2 _ h4=>
   obtain rfl:fi = #[]:=Array.eq_empty_of_size_eq_zero (by simpa using h1.symm)
   exact ⟨ca,rfl,h2,h4⟩
 have hz:=m.kV hm
 obtain ⟨ro0,own0,fz0,hdr0,obj0⟩:=u0 ids hs.ro hnd hids hwo
 obtain ⟨X,hX⟩: ∃X:Nat→Prop,X=owned (fun k len=>nu (sig ids s.o.length k) len) oI:=⟨_,rfl⟩
 rw [←hX] at own0
 obtain ⟨_,al,_⟩:=iD hwk
 have Xn: ∀b,X b→ ¬owned nu (O 0) b:=fun b hb ⟨id,ob,h1,h2⟩=>by
  rw [hX] at hb
  obtain ⟨k,ob',h3,h4⟩:=hb
  obtain ⟨i,q1,q2,q3⟩:=obj0 k ob' h3
  have hne:i≠id:=fun e=>hdead i (Jz q1) ob (by rw [e];exact h1)
  refine hs.ro.sep i id _ _ b q3 (al id ob h1) hne ?_ h2
  rw [ab.dC, ← q2];exact h4
 have XD: ∀b,X b→D b∧b<w.heap.size:=fun b hb=>⟨hs.ro.eE (own0 b hb),hs.ro.aF (own0 b hb)⟩
 
 have hFX: ∀b,Fz D nu s.o w b→D b∧ ¬X b:=fun b hf=>⟨hf.2.2,fun hx=>hf.2.1 (own0 b hx)⟩
 have hs2:RS (f.wz (fun b=>f.Z b∨X b)) (fun b=>D b∧ ¬X b) nu ⟨t0,O 0,Y 0⟩ a w:=by
  have:=tx (D':=fun b=>D b∧ ¬X b) hwk hs hFX (fun b ho=>⟨hs.ro.eE (by obtain ⟨id,ob,h1,h2⟩:=ho;exact ⟨id,ob,al id ob h1,h2⟩),fun hx=>Xn b hx ho⟩) (fun b hb=>⟨hs.ro.up b hb,fun hx=>by have:=(XD b hx).2;omega⟩)
  exact ⟨this.ro,this.tm,this.fR.Ds (fun b h=> .inl h)⟩
 have hm2:m.M (fun b=>D b∧ ¬X b) nu (O 0) (fun b=>f.Z b∨X b) (Y 0) w:=by
  have hy:s.y=Y 0:=hwk.y
  rw [←hy]
  exact m.step hm hs.ro hwk.rG hs2.ro (fun c v hr hc=>hwk.Iw hFX hr hc) (fun _ h=> .inl h.1) (fun b h=>(Classical.em (X b)).elim (fun q=> .inr (.inr q)) (fun q=> .inl ⟨h,q⟩)) (fun b hb=>hb.elim (fun q=>⟨(hz.1 b q).1,fun hd=>(hz.1 b q).2 hd.1, .inl q⟩) (fun q=>⟨(XD b q).2,fun hd=>hd.2 q, .inr (.inl (own0 b q))⟩)) (IW hn hwk.n)
 have hmn:m.n0≤(O 0).length:=IW hn hwk.n
 have ht0: ∀(i:Nat) c,t0[i]? = some c→c.wf (O 0).length=true:=fun i c hc=>by
  rcases (sq hwk.t).2 i c hc with e|e
  ·rw [e];rfl
  ·exact e.2
 refine wpIn_rangeFunc (F:=WF f.r) (n:=9) (fun fn _=> ?_)
 obtain ⟨l,mk,w1,Z1,q,D1,hent,hq,⟨rfl,rfl,rfl⟩,hl,hL,hb,hM1,hS1,hDD,hDD',hZZ⟩:=wg (f:=f.wz (fun b=>f.Z b∨X b)) m hm2 hs2 fn ps assign body
 obtain ⟨St,hSt⟩: ∃St:Nat→Prop,St=fun b=>b<w.heap.size∧D b∧ ¬owned nu s.o b:=⟨_,rfl⟩
 have hno: ∀b,b<w.heap.size→ ¬owned nu s.o b→ ¬owned nu (O 0) b:=fun b h1 h2=>((hwk.rG (nu:=nu) (w:=w) (Z:=fun _=>False)).keep b h1 h2 (fun h=>h)).2
 have hXZ: ∀b,X b→Z1 b:=fun b hx=>hZZ b (.inr hx)
 have hXl: ∀b,X b→b≠l:=fun b hx e=>hl (e ▸ hXZ b hx)
 have hl': ¬(fun b=>Z1 b∧ ¬X b) l:=fun h=>hl h.1
 have hZr': ∀l,(f.wz (fun b=>Z1 b∧ ¬X b)).r=some l→m.fix l:=hZr
 have hXnote: ∀b,X b→ ∀ob,w1.heap[b]? = some ob→oG ob=false:=fun b hx ob hob=>by
  rw [hb.block b (XD b hx).2] at hob
  cases hn:oG ob with
  | false=>rfl
  | true=>exact absurd (own0 b hx) (jh hs.ro hob hn)
 have hcore:Core m (f.wz (fun b=>Z1 b∧ ¬X b)) (O 0).length l t0 { a with defers:=mk++a.defers } St q D1 nu (O 0) (Y 0) X X w1:=by
  have e:(fun b=>(f.wz (fun b=>Z1 b∧ ¬X b)).Z b∨X b∨b=l)=(fun b=>Z1 b∨b=l):=funext fun b=>propext ⟨fun h=>h.elim (fun q=> .inl q.1) (fun q=>q.elim (fun q=> .inl (hXZ b q)) .inr),fun h=>h.elim (fun q=>(Classical.em (X b)).elim (fun hx=> .inr (.inl hx)) (fun hx=> .inl ⟨q,hx⟩)) (fun q=> .inr (.inr q))⟩
  refine ⟨by rw [e];exact hM1,⟨hS1.ro,hS1.tm,hS1.fR.base, ?_,hS1.fR.loop⟩,fun b h=>⟨fun hh=>hh.2 h,hXl b h⟩,fun b h=>h,fun b h=>IX (XD b h).2 hb.size,fun b h h'=>absurd h h',Xn,fun b h=> ?_,hL,IV _⟩
  ·obtain ⟨rs,k1,k2,k3⟩:=hS1.fR.marks
   exact ⟨rs,k1,k2,fun x hx=>⟨(k3 x hx).1,⟨(k3 x hx).2.1,fun hxx=>by have:=hXnote x hxx _ (k3 x hx).2.2;cases this⟩,(k3 x hx).2.2⟩⟩
  ·rw [hSt] at h
   exact ⟨hDD b h.1 ⟨h.2.1,fun hx=>h.2.2 (own0 b hx)⟩,hno b h.1 h.2.2,IX h.1 hb.size⟩
 let pr:=ve (P:=P) hmx m (f.wz (fun b=>Z1 b∧ ¬X b)) (O 0).length l t0 { a with defers:=mk++a.defers } St q O Y ok L Q hmn hZr' hl' ht0 hq hA hB har hround
 have hFI: ∀b,Fz (fun b=>D b∧ ¬(b<w.heap.size∧ ∃id ob,id∉ids∧s.o[id]? = some (some ob)∧cG (nu id ob.hl)=some b)) (fun k len=>nu (sig ids s.o.length k) len) oI w b→w1.heap[b]? = w.heap[b]? ∧Fz (fun b=>St b∨X b∨w1.heap.size≤b) (fun k len=>nu (sig ids s.o.length k) len) oI w1 b:=fun b hf=>by
  refine ⟨hb.block b hf.1,IX hf.1 hb.size,hf.2.1, .inl ?_⟩
  rw [hSt]
  refine ⟨hf.1,hf.2.2.1,fun ⟨id,ob,h1,h2⟩=> ?_⟩
  by_cases hmem:id∈ids
  ·obtain ⟨k,hk⟩:=List.getElem?_of_mem hmem
   have e:=congrArg (fun l=>l[k]?) hids
   simp only [List.getElem?_map,hk,Option.map_some,h1] at e
   cases hy:oI[k]? with
   | none=>rw [hy] at e;cases e
   | some y=>
    rw [hy] at e
    simp only [Option.map_some,Option.some.injEq] at e
    obtain ⟨ob0,rfl,rfl⟩:=Option.map_eq_some_iff.1 e.symm
    refine hf.2.1 ⟨k,ob0,hy, ?_⟩
    obtain ⟨i,q1,q2,_⟩:=obj0 k ob0 hy
    rw [hk] at q1;cases q1
    rw [ab.dC] at h2
    show cG (nu (sig ids s.o.length k) _)=_
    rw [q2];exact h2
  ·exact hf.2.2.2 ⟨hf.1,id,ob,hmem,h1,h2⟩
 have hcalls:=hseq.2 l pr (fun b=>St b∨X b∨w1.heap.size≤b) (fun k len=>nu (sig ids s.o.length k) len) w1 ca X (ro0.keep (fun b ho=>⟨hb.block b (ro0.aF ho), .inr (.inl (by rw [hX];exact ho))⟩) (fun b h=> .inr (.inr h)) hFI)
  ⟨by rw [←hca.len,bO],fun i c v q1 q2=>((hca.bA i (c.bF (sig ids s.o.length)) v (by rw [bz,q1];rfl) q2).xL (f:=sig ids s.o.length) (n:=ids.length) fz0 hdr0 c (br hcaps q1) rfl).keep hFI⟩
  (fun b hb=>by rw [hX];exact hb) (fun b h=>by rw [hX] at h;exact h) (fun b hlt hd=>hd.elim .inr (fun h=>h.elim .inl (fun h=>by omega))) (fun b h=>(hcore.st b h).2.2) ⟨0,D1,nu,rfl,⟨Nat.zero_le _,h0⟩,hcore⟩
 refine ⟨l,mk,w1,{ target:= .fn (.func gf) ca,args:= #[.func (.yield l) #[] #[]] },w1,gf, #[.func (.yield l) #[] #[]]++ca,w1,hent, ?_,fun f' _=>trivial, ?_,fun h=>by simp, ?_⟩
 ·simp only [resolve,hgv']
  simp [go_sem]
 ·simp [invoke,go_sem,eX hseq.1]
 ·refine iP (hcalls.mono fun e w3 he=> ?_)
  obtain ⟨⟨v,rfl⟩,X',T',he⟩:=he
  rcases he with ⟨k,D3,nu3,h1,⟨h2,hok⟩,h3⟩|⟨e,D3,nu3,o3,y3,h1,h2,h3⟩
  ·have hk:k=L.length:=by
    rcases I2 k L.length with h|h
    ·rw [Kc h] at h1;cases h1
    ·omega
   subst hk
   obtain ⟨k1,k2⟩:=h3.done hZr' hl' { q with state:= .exhausted }
   have hend:=run_endLoop (P:=P) h3.jA (by rw [hq.1];simp)
   rw [hq.2.1] at hend
   rw [show ({ q with state:= .exhausted }:Loop)={ q with state:= .exhausted } from rfl] at k1
   have k0:({ q with state:= .exhausted,pending:=none }:Loop)={ q with state:= .exhausted }:=by
    obtain ⟨e1,e2,_⟩:=hq
    cases q;simp only at e2;subst e2;rfl
   refine ⟨none,_,hend, ?_⟩
   first
    | exact hR .normal _ (fun b=>Z1 b∧ ¬X b) ⟨t0,O L.length,Y L.length⟩ _ _ nu3 k1 k2 (hfin hok)
    | (rw [←k0] at k1 k2;exact hR .normal _ (fun b=>Z1 b∧ ¬X b) ⟨t0,O L.length,Y L.length⟩ _ _ nu3 k1 k2 (hfin hok))
  ·refine ⟨some e.code,_,run_endLoop (P:=P) h3.jA (by simp), ?_⟩
   obtain ⟨k1,k2⟩:=h3.done hZr' hl' { ({ q with state:= .done,pending:=some e.code }:Loop) with state:= .exhausted }
   have hh:=hR e _ (fun b=>Z1 b∧ ¬X b) ⟨t0,o3,y3⟩ _ _ nu3 k1 k2 h2
   cases e with
   | normal=>exact absurd rfl h1
   | exit i=>exact wpIn_exit hh
   | goto i=>exact wpIn_goto hh
   | ret=>exact wpIn_ret hh
theorem zl {n0:Nat} {s:AS} {Q:aH→AS→Prop} {g:Operand} {ps:Array Tmp} {assign body:Code} {gf:FuncId} {caps:List AV} {L:List (List AV)} (hseq:uM P gf caps [] L) (O:Nat→List (Option ab)) (Y:Nat→je) (ok:Nat→Prop) (h0:ok 0) (t0:List AV)
  (hg:s.ev g = .fn gf [] caps) (hcaps:bB 0 caps=true) (hwk:Wk n0 s ⟨t0,O 0,Y 0⟩) (hA:bC assign=true) (hB:bC body=true) (har: ∀x,x∈L→x.length=ps.size)
  (hround: ∀k x,ok k→L[k]? = some x→bZ P (O 0).length assign ⟨gH ps.toList x t0,O k,Y k⟩ (p8 P (O 0).length body (mT (O 0).length t0 (ok (k+1)) (O (k+1)) (Y (k+1)) Q)))
  (hfin:ok L.length→Q .normal ⟨t0,O L.length,Y L.length⟩):bZ P n0 (.rangeFunc g ps assign body) s Q:=
 vM hseq [] Kb rfl (fun k ob h=>by simp at h) O Y ok h0 t0 (by rw [fF _ _ hcaps];exact hg) hcaps (fun i h=>by simp at h) hwk hA hB har hround hfin
theorem yJ (P:Program) (rs:List ResultVar) (l:Nat) (s:AS):Ai P rs l .ret s=kB (jW P s rs) s.o (fun _ _=>s.y = .run l []∨s.y = .off):=rfl
theorem sC (P:Program) (rs:List ResultVar) (l:Nat) (s:AS):Ai P rs l .normal s=kB (jW P s rs) s.o (fun _ _=>s.y = .run l []∨s.y = .off):=rfl
theorem wN (N:Nat) (t0:List AV) (p:Prop) (o':List (Option ab)) (y':je) (Q:aH→AS→Prop) (i:Nat) (s:AS):mT N t0 p o' y' Q (.exit i) s=Q (.exit i) ⟨t0,s.o,s.y⟩:=rfl
theorem wj (N:Nat) (t0:List AV) (p:Prop) (o':List (Option ab)) (y':je) (Q:aH→AS→Prop) (i:Nat) (s:AS):mT N t0 p o' y' Q (.goto i) s=Q (.goto i) ⟨t0,s.o,s.y⟩:=rfl
theorem yD (N:Nat) (t0:List AV) (p:Prop) (o':List (Option ab)) (y':je) (Q:aH→AS→Prop) (s:AS):mT N t0 p o' y' Q .ret s=Q .ret ⟨t0,s.o,s.y⟩:=rfl
theorem rR (N:Nat) (t0:List AV) (p:Prop) (o':List (Option ab)) (y':je) (Q:aH→AS→Prop) (s:AS):mT N t0 p o' y' Q .normal s=(p∧Wk N ⟨t0,s.o,s.y⟩ ⟨t0,o',y'⟩):=rfl
theorem qt (P:Program) (N:Nat) (body:Code) (R:aH→AS→Prop) (s:AS):p8 P N body R .normal s=bZ P N body s R:=rfl
attribute [go_sem] yJ sC wN wj yD rR qt gH
theorem y4 {n0:Nat} {Q:aH→AS→Prop} {ι:Type} {c:Code} {t:List AV} {o:List (Option ab)} {y:je} (m:Nat) (upd:ι→List (Nat×AV)) (ob:ι→List (Option ab)) (yy:ι→je) (mu:ι→Nat) (ok:ι→Prop) (i0:ι) (h3:ok i0) (h2:Wk n0 ⟨t,o,y⟩ ⟨jI (dB m t) (upd i0),ob i0,yy i0⟩)
  (h: ∀i,ok i→ ∀K:AS→Prop,(∀s2,aC n0 (fun i=>⟨jI (dB m t) (upd i),ob i,yy i⟩) mu ok (mu i) s2→K s2)→bZ P n0 c ⟨jI (dB m t) (upd i),ob i,yy i⟩ (jv K Q)):bZ P n0 (.loop c) ⟨t,o,y⟩ Q:=
 jT (fun i=>⟨jI (dB m t) (upd i),ob i,yy i⟩) mu ok i0 _ .refl h2 h3 h
end
end Go.Proofs.YtldnlbcibmmbbaaGreat
/-! The abstract walk: shorter rules for ranges; a state told anew; calls that see what is owned. -/
namespace Go.Proofs.YtldnlbcibmmbbaaGreat
open Go.RowKit
section
variable {P:Program}
theorem wJ {n0:Nat} {Q:aH→AS→Prop} {t:List AV} {o:List (Option ab)} {y:je} {g:Operand} {ps:Array Tmp} {assign body:Code} {gf:FuncId} {caps:List AV} {L:List (List AV)} (hseq:uM P gf caps [] L) (m:Nat) (O:Nat→List (Option ab)) (ok:Nat→Prop) (h0:ok 0)
  (hg:(AS.mk t o y).ev g = .fn gf [] caps) (hcaps:bB 0 caps=true) (hwk:Wk n0 ⟨t,o,y⟩ ⟨dB m t,O 0,y⟩) (hA:bC assign=true) (hB:bC body=true) (har: ∀x,x∈L→x.length=ps.size)
  (hround: ∀k x,ok k→L[k]? = some x→bZ P (O 0).length assign ⟨gH ps.toList x (dB m t),O k,y⟩ (p8 P (O 0).length body (mT (O 0).length (dB m t) (ok (k+1)) (O (k+1)) y Q)))
  (hfin:ok L.length→Q .normal ⟨dB m t,O L.length,y⟩):bZ P n0 (.rangeFunc g ps assign body) ⟨t,o,y⟩ Q:=
 zl hseq O (fun _=>y) ok h0 (dB m t) hg hcaps hwk hA hB har hround hfin
def yx (s s':AS):Prop:= ∀(f:Fr) (D:Nat→Prop) (nu:Nat→Nat→Value) (a:Act) (w:World),RS f D nu s a w→ ∃nu',bp nu s.o w nu' s'.o w∧s'.y=s.y∧RS f D nu' s' a w
theorem qU {n0:Nat} {s s':AS} {c:Code} {Q:aH→AS→Prop} (ht:yx s s') (hok:bC c=true) (h:bZ P n0 c s' Q):yZ P n0 c s Q:=fun f m D nu a w hZr hn hm hs hmx R hO hR=>by
 obtain ⟨nu',h1,hy,h2⟩:=ht f D nu a w hs
 exact fc hmx m hZr hn c hok s' a w D nu' f.Z Q R hO (by rw [hy];exact m.own hm hs.ro h1 h2.ro) h2 h hR
theorem bw {n0 id:Nat} {s s':AS} {ops:Array Oper} {d:Bool} {Q:aH→AS→Prop} (ht:yx s s') (hok:gO ops=true) (h:bZ P n0 (.region id ops d) s' Q):bZ P n0 (.region id ops d) s Q:=by
 have:=qU (P:=P) (n0:=n0) (c:= .region id ops d) (Q:=Q) ht hok h
 cases d
 ·exact .inr this
 ·exact .inr this
theorem aj.AH {f:FuncId} {args args':List AV} {o:List (Option ab)} {r:AV} {K:AV→List (Option ab)→Prop} (h:ai P f args' r) (n:Nat) {p:Prop} (hz:iC o n args=some (p,args')) (hp:p) (hf:r.flat=true) (k:K r o):aj P f args o K:=by
 refine .inr (.inr ⟨h.2.1,fun D nu w vargs hro hra=> ?_⟩)
 obtain ⟨hl,hall⟩:=(iH hro n).2 _ _ _ hz hp
 have hra':gb (xw D nu [] w) nu [] w args' vargs:=⟨by rw [←hl];exact hra.len,fun i c x q1 q2=>by
  have hi:i<args.length:=by rw [hl];exact (I0.1 q1).1
  exact (hall i _ c x (Je hi) q1 (hra.bA i _ x (Je hi) q2)).mono (.refl _ _ _) (fun b _ hb=>fun hlt=>⟨hlt,bf _ _,hb⟩)⟩
 refine (h.2.2 (fun _=>True) nu w vargs (.nil _ _ _ (fun _ _=>trivial) (hro.gl.nil (fun _ _ _=>trivial))) ⟨hra'.len,fun i c x q1 q2=>(hra'.bA i c x q1 q2).mono (.refl _ _ _) (fun _ _ _=>trivial)⟩).mono ?_
 rintro e w' ⟨v,nu',o',r',rfl,hm,_,hx,rfl,rfl⟩
 have hb:=eQ hm
 exact ⟨_,nu,o,_,rfl,ax hb,hro.below hb,hx.flat hf,k⟩
end
attribute [go_sem] List.zip_cons_cons List.zip_nil_left List.zip_nil_right
end Go.Proofs.YtldnlbcibmmbbaaGreat
