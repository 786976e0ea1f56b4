/- texts of one claim, one behind the other. -/
import Derived.Test.YtjcobjgjjlahdaaGreatDoorJAbsN
import Derived.Test.YtjcobjgjjlahdaaGreatDoorJFen
import Derived.OrdersIn
set_option linter.unusedSimpArgs false
set_option linter.unusedVariables false
set_option maxRecDepth 100000
set_option maxHeartbeats 16000000
open Array renaming getElem?_eq_some_iff -> Q8, getD_eq_getD_getElem? -> RZ, getElem?_eq_getElem -> Ro, any_eq_true' -> Sv, all_eq_true_iff_forall_mem -> Sy
open Bool renaming and_eq_true -> RY, or_eq_true -> Si
open List renaming nodup_nil -> Sr, getElem?_eq_some_iff -> Ra, drop_eq_getElem_cons -> Ss, getElem?_eq_getElem -> Rp, mem_of_getElem? -> RK, getElem?_cons_zero -> Su, getElem?_take_of_lt -> RE, range'_succ -> Sx, all_eq_true -> Sg, mem_range -> Sh, size_toArray -> Rz, getElem?_toArray -> Rr, singleton_append -> Sc
open Nat renaming lt_or_ge -> Rc, lt_of_lt_of_le -> Q7, le_refl -> Q5, le_trans -> Q6, sub_self -> Sm, lt_trichotomy -> Sw, zero_le -> Rh, le_of_lt -> Sz
namespace Go.Proofs.YtjcobjgjjlahdaaGreatDoor
open Go.RowKit
section
structure Lh (X:Nat->Prop) (w w':World):Prop where
 os:w'.os=w.os
 tape:w'.tape=w.tape
 output:w'.output=w.output
 size:w.heap.size<=w'.heap.size
 same: ∀b,b<w.heap.size-> ¬X b->w'.heap[b]? = w.heap[b]?
structure DH (T:Nat->Prop) (w w':World):Prop where
 os:w'.os=w.os
 tape:w'.tape=w.tape
 output:w'.output=w.output
 size:w.heap.size<=w'.heap.size
 same: ∀b,b<w.heap.size->T b->w'.heap[b]? = w.heap[b]?
structure vv (P:Program) (l:Nat) where
 J:List (List AV)->(Nat->Prop)->(Nat->Prop)->World->Prop
 Jx:(Nat->Prop)->(Nat->Prop)->World->Prop
 St:Nat->Prop
 nT: ∀ {rest X T X' w w'},J rest X T w->Lh X w w'->(∀b,X' b->b<w'.heap.size∧(X b∨w.heap.size<=b))->J rest X' (fun b=>T b∨(w.heap.size<=b∧b<w'.heap.size)) w'
 yr: ∀ {X T X' w w'},Jx X T w->Lh X w w'->(∀b,X' b->b<w'.heap.size∧(X b∨w.heap.size<=b))->Jx X' (fun b=>T b∨(w.heap.size<=b∧b<w'.heap.size)) w'
 round: ∀ {x rest X T w D nu} {vals:Array Value},J (x :: rest) X T w->fX D nu [] w x vals->bn 0 x=true->(∀b,b<w.heap.size->D b->(T b∨St b)∧ ¬X b) ->
  YieldAt (WF none) 8 P l vals w (fun e w'=>DH (fun b=>T b∨St b) w w'∧((e = .returned (.bool true)∧J rest X T w')∨(e = .returned (.bool false)∧Jx X T w')))
section
variable {D:Nat->Prop} {nu:Nat->Nat->Value} {o:List (Option aa)} {w:World} {P:Program}
def La {l:Nat} (pr:vv P l) (X T:Nat->Prop) (w:World):iQ->Prop
 | .no=>False
 | .run l' rest=>l'=l∧pr.J rest X T w
 | .off=>pr.Jx X T w
theorem La.nT {l:Nat} {pr:vv P l} {X T X':Nat->Prop} {w w':World} {y:iQ} (h:La pr X T w y) (ha:Lh X w w') (hx: ∀b,X' b->b<w'.heap.size∧(X b∨w.heap.size<=b)):La pr X' (fun b=>T b∨(w.heap.size<=b∧b<w'.heap.size)) w' y:=by
 cases y with
 | no=>exact h.elim
 | run l' rest=>exact ⟨h.1,pr.nT h.2 ha hx⟩
 | off=>exact pr.yr h ha hx
def zo (P:Program) (n0:Nat) {l:Nat} (pr:vv P l):WM P where
 n0:=n0
 fix:=fun _=>False
 M:=fun D nu o Z y w=> ∃X T,(∀b,owned nu o b->X b)∧(∀b,Z b->X b)∧(∀b,X b->T b)∧(∀b,T b->b<w.heap.size)∧(∀b,X b->owned nu o b∨ ¬D b)∧(∀b,Z b-> ¬D b)∧(∀b,b<w.heap.size->D b->T b∨pr.St b)∧n0<=o.length∧La pr X T w y
 step:=fun {D D' nu o Z Z' y w nu' o' w'} h hro hm hro' _ hD hDZ hZ hn=>by
  obtain ⟨X,T,h1,h2,h3,h4,h5,h5',h6,h7,h8⟩:=h
  have hX: ∀b,(owned nu' o' b∨Z' b∨(X b∧ ¬D' b))->b<w'.heap.size∧(X b∨w.heap.size<=b):=fun b hb=>by
   rcases hb with q|q|q
   ·refine ⟨hro'.aU q, ?_⟩
    rcases Rc b w.heap.size with hlt|hge
    ·by_cases ho:owned nu o b
     ·exact .inl (h1 b ho)
     ·by_cases hz:Z b
      ·exact .inl (h2 b hz)
      ·exact absurd q (hm.keep b hlt ho hz).2
    ·exact .inr hge
   ·refine ⟨(hZ b q).1, ?_⟩
    rcases (hZ b q).2.2 with r|r|r
    ·exact .inl (h2 b r)
    ·exact .inl (h1 b r)
    ·exact .inr r
   ·exact ⟨Q7 (h4 b (h3 b q.1)) hm.size, .inl q.1⟩
  refine ⟨fun b=>owned nu' o' b∨Z' b∨(X b∧ ¬D' b),fun b=>T b∨(w.heap.size<=b∧b<w'.heap.size),fun b h=> .inl h,fun b h=> .inr (.inl h),fun b hb=> ?_,fun b hb=> ?_,fun b hb=> ?_,fun b hb=>(hZ b hb).2.1,fun b hlt hd=> ?_,hn, ?_⟩
  ·obtain ⟨q1,q2⟩:=hX b hb
   rcases q2 with q2|q2
   ·exact .inl (h3 b q2)
   ·exact .inr ⟨q2,q1⟩
  ·rcases hb with q|q
   ·exact Q7 (h4 b q) hm.size
   ·exact q.2
  ·rcases hb with q|q|q
   ·exact .inl q
   ·exact .inr (hZ b q).2.1
   ·exact .inr q.2
  ·rcases Rc b w.heap.size with hb|hb
   ·rcases hD b hd with q|q
    ·rcases h6 b hb q with q|q
     ·exact .inl (.inl q)
     ·exact .inr q
    ·exact .inl (.inl (h3 b (h2 b q)))
   ·exact .inl (.inr ⟨hb,hlt⟩)
  ·exact h8.nT ⟨hm.os,hm.tape,hm.output,hm.size,fun b hb hx=>(hm.keep b hb (fun ho=>hx (h1 b ho)) (fun hz=>hx (h2 b hz))).1⟩ hX
 mS:=fun h=>by
  obtain ⟨X,T,h1,h2,h3,h4,h5,h5',h6,h7,h8⟩:=h;exact ⟨fun b hb=>⟨h4 b (h3 b (h2 b hb)),h5' b hb⟩,h7,fun b hb=>hb.elim⟩
 yield:=fun {D nu o Z l' x rest w vals} h hro hra hw=>by
  obtain ⟨X,T,h1,h2,h3,h4,h5,h5',h6,h7,rfl,h8⟩:=h
  have hF: ∀b,Fz D nu o w b->Fz (fun b=>D b∧ ¬X b) nu [] w b:=fun b hf=>⟨hf.1,ba _ _,hf.2.2,fun hx=>by
   rcases h5 b hx with q|q
   ·exact hf.2.1 q
   ·exact q hf.2.2⟩
  have hra':fX (fun b=>D b∧ ¬X b) nu [] w x vals:=⟨hra.len,fun i c v q1 q2=>(hra.at' i c v q1 q2).tr (n:=0) hF (fun id len hlt=>by omega) (bU hw q1)⟩;obtain ⟨fn,tmps,assign,body,hrun,hround⟩:=pr.round h8 hra' hw (fun b hb hd=>⟨h6 b hb hd.1,hd.2⟩);refine ⟨fn,tmps,assign,body,hrun,hround.mono fun e w' he=> ?_⟩;obtain ⟨hk,he⟩:=he
  have hM: ∀y,La pr X T w' y-> ∃X T,(∀b,owned nu o b->X b)∧(∀b,Z b->X b)∧(∀b,X b->T b)∧(∀b,T b->b<w'.heap.size)∧(∀b,X b->owned nu o b∨ ¬(D b∧ ¬(w.heap.size<=b∧b<w'.heap.size)))∧(∀b,Z b-> ¬(D b∧ ¬(w.heap.size<=b∧b<w'.heap.size))) ∧
    (∀b,b<w'.heap.size->(D b∧ ¬(w.heap.size<=b∧b<w'.heap.size))->T b∨pr.St b)∧n0<=o.length∧La pr X T w' y:=fun y hy=>by
   refine ⟨X,T,h1,h2,h3,fun b hb=>Q7 (h4 b hb) hk.size,fun b hb=> ?_,fun b hb hd=>h5' b hb hd.1,fun b hlt hd=> ?_,h7,hy⟩
   ·rcases h5 b hb with q|q
    ·exact .inl q
    ·exact .inr (fun hd=>q hd.1)
   ·exact h6 b (by have:=hd.2;omega) hd.1
  refine ⟨⟨hk.os,hk.tape,hk.output,hk.size,fun b hb hh=>hk.same b hb ?_⟩, ?_⟩
  ·rcases hh with q|q|q|q
   ·exact h6 b hb q
   ·exact .inl (h3 b (h2 b q))
   ·exact .inl (h3 b (h1 b q))
   ·exact q.elim
  ·rcases he with ⟨rfl,hj⟩|⟨rfl,hj⟩
   ·exact .inl ⟨rfl,hM _ ⟨rfl,hj⟩⟩
   ·exact .inr ⟨rfl,hM _ hj⟩
def gy (P:Program) (gf:FuncId) (caps:List AV) (oI:List (Option aa)) (L:List (List AV)):Prop:=
 dO P gf=true∧ ∀(l:Nat) (pr:vv P l) (D:Nat->Prop) (nu:Nat->Nat->Value) (w:World) (vargs:Array Value) (X:Nat->Prop),RO D nu oI w->fX D nu oI w caps vargs->(∀b,owned nu oI b->X b)->(∀b,X b->owned nu oI b)->(∀b,b<w.heap.size->D b->X b∨pr.St b)->(∀b,pr.St b->b<w.heap.size)->pr.J L X X w ->
  Calls P gf (#[.func (.yield l) #[] #[]]++vargs) w (fun e w'=>(∃v,e = .returned v)∧ ∃X' T',pr.J [] X' T' w'∨pr.Jx X' T' w')
def Dt (P:Program) (rs:List ResultVar) (l:Nat) (e:aZ) (s:AS):Prop:=match e with
 | .ret| .normal=>kX (jX P s rs) s.o (fun _ _=>s.y = .run l []∨s.y = .off)
 | _=>False
theorem gy.enter {gf:FuncId} {fn:Func} {c:Code} {caps:List AV} {oI:List (Option aa)} {L:List (List AV)} (hf:P.funcs[gf]? = some fn) (hb:fn.body=some c) (hc:dO P gf=true) (hok:b6 c=true) (hmx:P.follows .mixedOrders=true)
  (h: ∀l,cF P oI.length c ⟨(.v (.func (.yield l) #[] #[]) :: caps)++List.replicate (fn.ntmps - (AV.v (.func (.yield l) #[] #[]) :: caps).length) .undef,oI, .run l L⟩ (Dt P fn.results.toList l)):gy P gf caps oI L:=by
 refine ⟨hc,fun l pr D nu w vargs X hro ha hx hx' hD hSt hJ=>vU (n:=9) (callsIn_of_wp_marks hf hb trivial ?_ rfl)⟩
 have ha':fX D nu oI w (.v (.func (.yield l) #[] #[]) :: caps) (#[.func (.yield l) #[] #[]]++vargs):=by
  refine ⟨by simp [ha.len];omega,fun i c v h1 h2=> ?_⟩
  cases i with
  | zero=>
   rw [Array.getElem?_append_left (by simp)] at h2;simp at h1 h2;subst h1;subst h2;exact .v _
  | succ i=>
   refine ha.at' i c v (by simpa using h1) ?_;rw [Array.getElem?_append_right (by simp)] at h2;simpa using h2
 have hs:RS ⟨w.heap.size,none,fun _=>False⟩ D nu ⟨(.v (.func (.yield l) #[] #[]) :: caps)++List.replicate (fn.ntmps - (AV.v (.func (.yield l) #[] #[]) :: caps).length) .undef,oI, .run l L⟩ { tmps:=(#[Value.func (.yield l) #[] #[]]++vargs)++Array.replicate (fn.ntmps - (#[Value.func (.yield l) #[] #[]]++vargs).size) Go.undef,defers:=[] } w:=wa rfl (Q5 _) hro ha';have hX: ∀b,X b->b<w.heap.size:=fun b hb=>hro.aU (hx' b hb);have hM:(zo P oI.length pr).M D nu oI (fun _=>False) (.run l L) w:=⟨X,X,hx,fun b hb=>hb.elim,fun b hb=>hb,hX,fun b hb=> .inl (hx' b hb),fun b hb=>hb.elim,hD,Q5 _,rfl,hJ⟩
 have fin: ∀(D' Z':Nat->Prop) (s':AS) (a':Act) (w':World) (nu':Nat->Nat->Value),(zo P oI.length pr).M D' nu' s'.o Z' s'.y w'->RS ⟨w.heap.size,none,Z'⟩ D' nu' s' a' w'->kX (jX P s' fn.results.toList) s'.o (fun _ _=>s'.y = .run l []∨s'.y = .off) ->
   LeavesInM (WF none) 9 P fn a'.tmps (fun e w'=>(∃v,e = .returned v)∧ ∃X' T',pr.J [] X' T' w'∨pr.Jx X' T' w') a'.defers .returning w':=fun D' Z' s' a' w' nu' h1 h2 h3=>by
  obtain ⟨rs,k1,k2,k3⟩:=h2.gG.marks;rw [k2];refine jy (B:=w.heap.size) rs w' k1 (fun x hx=>⟨(k3 x hx).1,(k3 x hx).2.2⟩) (fun w2 hs2 hoth=> ?_);obtain ⟨X',T',g1,g2,g3,g4,g5,g5',g6,g7,g8⟩:=h1;have h2':RS ⟨w.heap.size,none,Z'⟩ D' nu' s' { tmps:=a'.tmps,defers:=[] } w2:=⟨hs2.ro h2.ro,⟨h2.tm.len,fun i c x q1 q2=>hs2.ra (h2.tm.at' i c x q1 q2)⟩,⟨by rw [hs2.size];exact h2.gG.base,⟨[],Sr,rfl,fun x hx=>(by cases hx)⟩,fun l hl=>by cases hl⟩⟩;obtain ⟨v,r,q1,q2,q3⟩:=xA h2' h3;have ha2:Lh X' w' w2:=⟨hs2.os,hs2.tape,hs2.output,Nat.le_of_eq hs2.size.symm,fun b _ hb=>hoth b (fun hbr=>hb (g2 b (k3 b hbr).2.1))⟩;have hx2: ∀b,X' b->b<w2.heap.size∧(X' b∨w'.heap.size<=b):=fun b hb=>⟨by rw [hs2.size];exact g4 b (g3 b hb), .inl hb⟩;refine ⟨v,q1,⟨v,rfl⟩,X',(fun b=>T' b∨(w'.heap.size<=b∧b<w2.heap.size)), ?_⟩
  rcases q3 with e|e
  ·rw [e] at g8;exact .inl (pr.nT g8.2 ha2 hx2)
  ·rw [e] at g8;exact .inr (pr.yr g8 ha2 hx2)
 refine wpIn_mono (ib (P:=P) hmx (f:=⟨w.heap.size,none,fun _=>False⟩) (zo P oI.length pr) (fun l hl=>by cases hl) (Q5 _) c hok _ _ w D nu (fun _=>False) _ (fun (e:Exit) a' w'=>e ≠ .outgrown∧bodyPostM (WF none) 9 P fn (fun e w'=>(∃v,e = .returned v)∧ ∃X' T',pr.J [] X' T' w'∨pr.Jx X' T' w') e a' w') (fun a w hh=>hh.1 rfl) hM hs (h l) (fun e D' Z' s' a' w' nu' h1 h2 h3=> ?_)) (fun e a w hh=>hh.2)
 cases e with
 | ret=>exact ⟨by simp [aZ.real],fin D' Z' s' a' w' nu' h1 h2 h3⟩
 | normal=>exact ⟨by simp [aZ.real],fin D' Z' s' a' w' nu' h1 h2 h3⟩
 | exit id=>exact h3.elim
 | goto l=>exact h3.elim
end
end
section
mutual
theorem AV.AX {n m:Nat} (h:n<=m): ∀a:AV,a.wf n=true->a.wf m=true
 | .undef,_=>rfl
 | .v _,_=>rfl
 | .agg cs,ha=>by simp only [AV.wf] at ha ⊢; exact iv h cs ha
 | .dC cs,ha=>by simp only [AV.wf] at ha ⊢; exact iv h cs ha
 | .aC _ rows _,ha=>by simp only [AV.wf] at ha ⊢; exact zQ h rows ha
 | .vp cs,ha=>by simp only [AV.wf] at ha ⊢; exact iv h cs ha
 | .ptr id _ _ _ _,ha=>by simp only [AV.wf,decide_eq_true_eq] at ha ⊢; omega
 | .vec id _,ha=>by simp only [AV.wf,decide_eq_true_eq] at ha ⊢; omega
 | .fn _ f c,ha=>by
  simp only [AV.wf,RY] at ha ⊢;exact ⟨iv h f ha.1,iv h c ha.2⟩
 | .full a,ha=>by simp only [AV.wf] at ha ⊢; exact AV.AX h a ha
 | .iR p a,ha=>by simp only [AV.wf] at ha ⊢; exact AV.AX h a ha
 | .mp rows,ha=>by simp only [AV.wf] at ha ⊢; exact zQ h rows ha
theorem iv {n m:Nat} (h:n<=m): ∀l:List AV,bn n l=true->bn m l=true
 | [],_=>rfl
 | a :: l,ha=>by
  simp only [bn,RY] at ha ⊢;exact ⟨AV.AX h a ha.1,iv h l ha.2⟩
theorem zQ {n m:Nat} (h:n<=m): ∀l:List (List AV),dA n l=true->dA m l=true
 | [],_=>rfl
 | a :: l,ha=>by
  simp only [dA,RY] at ha ⊢;exact ⟨iv h a ha.1,zQ h l ha.2⟩
end
section
variable {D D':Nat->Prop} {nu:Nat->Nat->Value} {o:List (Option aa)} {w w':World} {P:Program}
theorem Dg (m:WM P) {f:Fr} {t:List AV} {a:Act} {C Z Z':Nat->Prop} {y:iQ} (h:m.M D nu o Z y w) (hs:RS f D nu ⟨t,o,y⟩ a w) (e1:w'.os=w.os) (e2:w'.tape=w.tape) (e3:w'.output=w.output) (hsz:w.heap.size<=w'.heap.size)
  (same: ∀b,b<w.heap.size-> ¬C b->w'.heap[b]? = w.heap[b]?) (hC: ∀b,C b->Z b∧ ¬f.Z b∧f.r≠some b) (hDn: ∀b,b<w.heap.size->D b->D' b) (hup: ∀b,w'.heap.size<=b->D' b) (hD1: ∀b,D' b->D b∨Z b)
  (hD2: ∀b,w.heap.size<=b->b<w'.heap.size->D' b∨Z' b) (hZ': ∀b,Z' b->b<w'.heap.size∧ ¬D' b∧(Z b∨w.heap.size<=b)):m.M D' nu o Z' y w'∧RS f D' nu ⟨t,o,y⟩ a w':=by
 have hz:=m.mS h;have DC: ∀b,D b-> ¬C b:=fun b d c=>(hz.1 b (hC b c).1).2 d;have hF: ∀b,Fz D nu o w b->w'.heap[b]? = w.heap[b]? ∧Fz D' nu o w' b:=fun b hf=>⟨same b hf.1 (DC b hf.2.2),Q7 hf.1 hsz,hf.2.1,hDn b hf.1 hf.2.2⟩;have hro':RO D' nu o w':=hs.ro.keep (fun b hb=>⟨same b (hs.ro.aU hb) (DC b (hs.ro.fB hb)),hDn b (hs.ro.aU hb) (hs.ro.fB hb)⟩) hup hF
 refine ⟨m.step h hs.ro ⟨e1,e2,e3,hsz,fun id len _ hh=>⟨hh,rfl⟩,fun b hb hno hnz=>⟨same b hb (fun c=>hnz (hC b c).1),hno⟩⟩ hro' (fun c v hr _=>hr.keep hF) hD1 (fun b hb=> ?_) (fun b hb=>⟨(hZ' b hb).1,(hZ' b hb).2.1,(hZ' b hb).2.2.elim .inl (fun q=> .inr (.inr q))⟩) hz.2.1,hro',⟨hs.tm.len,fun i c x q1 q2=>(hs.tm.at' i c x q1 q2).keep hF⟩,
  hs.gG.keep hsz (fun b ob hb hob _=>(same b (Q8.1 hob).1 (fun c=> ?_)).trans hob)⟩
 ·rcases Rc b w.heap.size with q|q
  ·exact .inl (hDn b q hb)
  ·rcases Rc b w'.heap.size with q'|q'
   ·exact hD2 b q q'
   ·exact .inl (hup b q')
 ·rcases hb with q|q
  ·exact (hC b c).2.1 q
  ·exact (hC b c).2.2 q
structure Core (m:WM P) (f:Fr) (N l:Nat) (t0:List AV) (a:Act) (St:Nat->Prop) (q:Loop) (D:Nat->Prop) (nu:Nat->Nat->Value) (o:List (Option aa)) (y:iQ) (X T:Nat->Prop) (w:World):Prop where
 mm:m.M D nu o (fun b=>f.Z b∨X b∨b=l) y w
 rs:RS f D nu ⟨t0,o,y⟩ a w
 xz: ∀b,X b-> ¬f.Z b∧b≠l
 xt: ∀b,X b->T b
 tl: ∀b,T b->b<w.heap.size
 td: ∀b,T b-> ¬X b->D b
 to: ∀b,T b-> ¬owned nu o b
 st: ∀b,St b->D b∧ ¬owned nu o b∧b<w.heap.size
 kf:w.heap[l]? = some (.loop q)
 n:N<=o.length
variable {m:WM P} {f:Fr} {N l:Nat} {t0:List AV} {a:Act} {St:Nat->Prop} {q:Loop} {y:iQ} {X T:Nat->Prop}
theorem Core.J6 (h:Core m f N l t0 a St q D nu o y X T w) (hZr: ∀l,f.r=some l->m.fix l) {b:Nat} (hb:X b∨b=l):f.r≠some b:=fun e=>
 ((m.mS h.mm).2.2 b (hZr b e)).2.1 (.inr hb)
theorem Core.nT (h:Core m f N l t0 a St q D nu o y X T w) (hZr: ∀l,f.r=some l->m.fix l) {X':Nat->Prop} (ha:Lh X w w') (hx: ∀b,X' b->b<w'.heap.size∧(X b∨w.heap.size<=b)) :
  Core m f N l t0 a St q (fun b=>(D b∨X b)∧ ¬X' b) nu o y X' (fun b=>T b∨(w.heap.size<=b∧b<w'.heap.size)) w':=by
 have hz:=m.mS h.mm;have DX: ∀b,D b-> ¬X b:=fun b d x=>(hz.1 b (.inr (.inl x))).2 d;have hll:l<w.heap.size:=(Q8.1 h.kf).1;have hup:=h.rs.ro.up
 have key:=Dg (C:=X) (D':=fun b=>(D b∨X b)∧ ¬X' b) (Z':=fun b=>f.Z b∨X' b∨b=l) m h.mm h.rs ha.os ha.tape ha.output ha.size ha.same (fun b hb=>⟨.inr (.inl hb),(h.xz b hb).1,h.J6 hZr (.inl hb)⟩)
  (fun b hb hd=>⟨.inl hd,fun hx'=>(hx b hx').2.elim (DX b hd) (by omega)⟩) (fun b hb=>⟨.inl (hup b (Q6 ha.size hb)),fun hx'=>by have:=(hx b hx').1;omega⟩)
  (fun b hd=>hd.1.elim .inl (fun x=> .inr (.inr (.inl x)))) (fun b hb _=>by
   by_cases hx':X' b
   ·exact .inr (.inr (.inl hx'))
   ·exact .inl ⟨.inl (hup b hb),hx'⟩)
  (fun b hb=>by
   rcases hb with hb|hb|hb
   ·have:=hz.1 b (.inl hb)
    refine ⟨Q7 this.1 ha.size,fun hd=> ?_, .inl (.inl hb)⟩
    rcases hd.1 with q|q
    ·exact this.2 q
    ·exact (h.xz b q).1 hb
   ·refine ⟨(hx b hb).1,fun hd=>hd.2 hb, ?_⟩
    rcases (hx b hb).2 with q|q
    ·exact .inl (.inr (.inl q))
    ·exact .inr q
   ·have:=hz.1 b (.inr (.inr hb))
    refine ⟨Q7 this.1 ha.size,fun hd=> ?_, .inl (.inr (.inr hb))⟩
    rcases hd.1 with q|q
    ·exact this.2 q
    ·exact (h.xz b q).2 hb)
 refine ⟨key.1,key.2,fun b hb=> ?_,fun b hb=> ?_,fun b hb=> ?_,fun b hb hnx=> ?_,fun b hb=> ?_,fun b hb=> ?_,(ha.same l hll (fun x=>(h.xz l x).2 rfl)).trans h.kf,h.n⟩
 ·rcases (hx b hb).2 with q|q
  ·exact h.xz b q
  ·exact ⟨fun hf=>by have:=(hz.1 b (.inl hf)).1;omega,by omega⟩
 ·rcases (hx b hb).2 with q|q
  ·exact .inl (h.xt b q)
  ·exact .inr ⟨q,(hx b hb).1⟩
 ·rcases hb with q|q
  ·exact Q7 (h.tl b q) ha.size
  ·exact q.2
 ·refine ⟨?_,hnx⟩
  rcases hb with q|q
  ·by_cases hxb:X b
   ·exact .inr hxb
   ·exact .inl (h.td b q hxb)
  ·exact .inl (hup b q.1)
 ·rcases hb with q|q
  ·exact h.to b q
  ·exact fun ho=>by have:=h.rs.ro.aU ho;omega
 ·obtain ⟨q1,q2,q3⟩:=h.st b hb;exact ⟨⟨.inl q1,fun hx'=>(hx b hx').2.elim (DX b q1) (by omega)⟩,q2,Q7 q3 ha.size⟩
theorem Core.put (h:Core m f N l t0 a St q D nu o y X T w) (hZr: ∀l,f.r=some l->m.fix l) (hl: ¬f.Z l) (q':Loop):Core m f N l t0 a St q' D nu o y X T (w.putObj l (.loop q')):=by
 have hz:=m.mS h.mm;have hll:l<w.heap.size:=(Q8.1 h.kf).1
 have key:=Dg (C:=fun b=>b=l) (D':=D) (Z':=fun b=>f.Z b∨X b∨b=l) (w':=w.putObj l (.loop q')) m h.mm h.rs rfl rfl rfl (by simp) (fun b hb hne=>World.putObj_heap_other hne) (fun b hb=>⟨.inr (.inr hb),by rw [hb];exact hl,h.J6 hZr (.inr hb)⟩)
  (fun b hb hd=>hd) (fun b hb=>h.rs.ro.up b (by simpa using hb)) (fun b hd=> .inl hd) (fun b hb hb'=>absurd hb' (by simp;omega)) (fun b hb=>⟨by simpa using (hz.1 b hb).1,(hz.1 b hb).2, .inl hb⟩)
 exact ⟨key.1,key.2,h.xz,h.xt,fun b hb=>by simpa using h.tl b hb,h.td,h.to,fun b hb=>⟨(h.st b hb).1,(h.st b hb).2.1,by simpa using (h.st b hb).2.2⟩,World.putObj_heap_same hll,h.n⟩
theorem Core.I1 (h:Core m f N l t0 a St q D nu o y X T w) (hmn:m.n0<=N) {o':List (Option aa)} {y':iQ} (hk:Wk N ⟨t0,o,y⟩ ⟨t0,o',y'⟩):Core m f N l t0 a St q D nu o' y' X T w:=by
 have hz:=m.mS h.mm;have hy:y=y':=hk.y;subst hy;have hs2:=jN hk h.rs;have hno: ∀b,b<w.heap.size-> ¬owned nu o b-> ¬owned nu o' b:=fun b hb hn=>((hk.sH (nu:=nu) (w:=w) (Z:=fun _=>False)).keep b hb hn (fun h=>h)).2;exact ⟨m.step h.mm h.rs.ro hk.sH hs2.ro (fun c v hr hc=>hk.ra hr hc) (fun _ h=> .inl h) (fun _ h=> .inl h) (fun b hb=>⟨(hz.1 b hb).1,(hz.1 b hb).2, .inl hb⟩) (Q6 hmn hk.n),hs2,h.xz,h.xt,h.tl,h.td,fun b hb=>hno b (h.tl b hb) (h.to b hb),fun b hb=>⟨(h.st b hb).1,hno b (h.st b hb).2.2 (h.st b hb).2.1,(h.st b hb).2.2⟩,h.kf,hk.n⟩
theorem Core.done (h:Core m f N l t0 a St q D nu o y X T w) (hZr: ∀l,f.r=some l->m.fix l) (hl: ¬f.Z l) (q':Loop):m.M (fun b=>D b∨X b∨b=l) nu o f.Z y (w.putObj l (.loop q'))∧RS f (fun b=>D b∨X b∨b=l) nu ⟨t0,o,y⟩ a (w.putObj l (.loop q')):=by
 have hz:=m.mS h.mm
 refine Dg (C:=fun b=>b=l) m h.mm h.rs rfl rfl rfl (by simp) (fun b hb hne=>World.putObj_heap_other hne) (fun b hb=>⟨.inr (.inr hb),by rw [hb];exact hl,h.J6 hZr (.inr hb)⟩)
  (fun b hb hd=> .inl hd) (fun b hb=> .inl (h.rs.ro.up b (by simpa using hb))) (fun b hd=>hd.elim .inl (fun q=> .inr (.inr q))) (fun b hb hb'=>absurd hb' (by simp;omega)) (fun b hb=>⟨by simpa using (hz.1 b (.inl hb)).1,fun hd=> ?_, .inl (.inl hb)⟩)
 rcases hd with q|q|q
 ·exact (hz.1 b (.inl hb)).2 q
 ·exact (h.xz b q).1 hb
 ·rw [q] at hb;exact hl hb
structure fM (m:WM P) (f:Fr) (N l:Nat) (t0:List AV) (a:Act) (St X T:Nat->Prop) (w0:World) (q:Loop) (D:Nat->Prop) (nu:Nat->Nat->Value) (o:List (Option aa)) (Z:Nat->Prop) (y:iQ) (w:World):Prop where
 mm:m.M D nu o (fun b=>Z b∨(f.Z b∨X b∨b=l)) y w
 zz: ∀b,f.Z b∨X b∨b=l-> ¬Z b
 tm:fX D nu o w t0 a.tmps
 gG:FR f a.defers w
 kf:w.heap[l]? = some (.loop q)
 os:w.os=w0.os
 tape:w.tape=w0.tape
 output:w.output=w0.output
 size:w0.heap.size<=w.heap.size
 same: ∀b,T b∨St b->w.heap[b]? = w0.heap[b]?
 xz: ∀b,X b-> ¬f.Z b∧b≠l
 xt: ∀b,X b->T b
 tl: ∀b,T b->b<w0.heap.size
 td: ∀b,T b-> ¬X b->D b
 to: ∀b,T b-> ¬owned nu o b
 st: ∀b,St b->D b∧ ¬owned nu o b∧b<w0.heap.size
 n:N<=o.length
theorem Core.round (h:Core m f N l t0 a St q D nu o y X T w):fM m f N l t0 a St X T w q D nu o (fun _=>False) y w:=by
 have e:(fun b=>False∨(f.Z b∨X b∨b=l))=(fun b=>f.Z b∨X b∨b=l):=by funext b;simp
 exact ⟨by rw [e];exact h.mm,fun _ _ h=>h,h.rs.tm,h.rs.gG,h.kf,rfl,rfl,rfl,Q5 _,fun _ _=>rfl,h.xz,h.xt,h.tl,h.td,h.to,h.st,h.n⟩
variable {w0:World} {Z:Nat->Prop}
theorem fM.step (hmn:m.n0<=N) (hZr: ∀l,f.r=some l->m.fix l) (ht0: ∀(i:Nat) c,t0[i]? = some c->c.wf N=true) {nu':Nat->Nat->Value} {o':List (Option aa)} {Z':Nat->Prop}
  (h:fM m f N l t0 a St X T w0 q D nu o Z y w) (hro:RO D nu o w) (hm:zY Z nu o w nu' o' w') (hro':RO D' nu' o' w') (hra: ∀c v,RA D nu o w c v->c.wf o'.length=true->RA D' nu' o' w' c v) (hD1: ∀b,D' b->D b∨Z b) (hD2: ∀b,D b->D' b∨Z' b)
  (hZ: ∀b,Z' b->b<w'.heap.size∧ ¬D' b∧(Z b∨owned nu o b∨w.heap.size<=b)) (hn:N<=o'.length):fM m f N l t0 a St X T w0 q D' nu' o' Z' y w':=by
 have hz:=m.mS h.mm;have nD: ∀b,f.Z b∨X b∨b=l->b<w.heap.size∧ ¬D b:=fun b hb=>hz.1 b (.inr hb);have nO: ∀b,f.Z b∨X b∨b=l-> ¬owned nu o b:=fun b hb ho=>(nD b hb).2 (hro.fB ho)
 have nZ': ∀b,f.Z b∨X b∨b=l-> ¬Z' b:=fun b hb hz'=>by
  rcases (hZ b hz').2.2 with q|q|q
  ·exact h.zz b hb q
  ·exact nO b hb q
  ·have:=(nD b hb).1;omega
 have nD': ∀b,f.Z b∨X b∨b=l-> ¬D' b:=fun b hb hd=>by
  rcases hD1 b hd with q|q
  ·exact (nD b hb).2 q
  ·exact h.zz b hb q
 have keepF: ∀b,f.Z b∨X b∨b=l->w'.heap[b]? = w.heap[b]? ∧ ¬owned nu' o' b:=fun b hb=>hm.keep b (nD b hb).1 (nO b hb) (h.zz b hb)
 have stay: ∀b,b<w.heap.size->D b-> ¬owned nu o b->(w'.heap[b]? = w.heap[b]? ∧ ¬owned nu' o' b)∧D' b:=fun b hb hd hno=>by
  have hnz: ¬Z b:=fun hz'=>(hz.1 b (.inl hz')).2 hd;refine ⟨hm.keep b hb hno hnz, ?_⟩
  rcases hD2 b hd with q|q
  ·exact q
  ·rcases (hZ b q).2.2 with r|r|r
   ·exact absurd r hnz
   ·exact absurd r hno
   ·omega
 have hTS: ∀b,T b∨St b->(w'.heap[b]? = w.heap[b]? ∧ ¬owned nu' o' b)∧(D b->D' b):=fun b hb=>by
  have hs0:=h.size
  rcases hb with q|q
  ·have hlt:=h.tl b q
   by_cases hx:X b
   ·exact ⟨keepF b (.inr (.inl hx)),fun hd=>absurd hd (nD b (.inr (.inl hx))).2⟩
   ·obtain ⟨r1,r2⟩:=stay b (by omega) (h.td b q hx) (h.to b q);exact ⟨r1,fun _=>r2⟩
  ·obtain ⟨k1,k2,k3⟩:=h.st b q;obtain ⟨r1,r2⟩:=stay b (by omega) k1 k2;exact ⟨r1,fun _=>r2⟩
 refine ⟨m.step h.mm hro ⟨hm.os,hm.tape,hm.output,hm.size,hm.p9,fun b h1 h2 h3=>hm.keep b h1 h2 (fun hz'=>h3 (.inl hz'))⟩ hro' hra (fun b hd=>(hD1 b hd).elim .inl (fun q=> .inr (.inl q))) (fun b hd=>(hD2 b hd).elim .inl (fun q=> .inr (.inl q))) (fun b hb=> ?_) (Q6 hmn hn),nZ',⟨h.tm.len,fun i c x q1 q2=>hra c x (h.tm.at' i c x q1 q2) (AV.AX hn c (ht0 i c q1))⟩,
  h.gG.keep hm.size (fun b ob hb hob _=> ?_),(keepF l (.inr (.inr rfl))).1.trans h.kf,hm.os.trans h.os,hm.tape.trans h.tape,hm.output.trans h.output,Q6 h.size hm.size,fun b hb=>(hTS b hb).1.1.trans (h.same b hb),h.xz,h.xt,h.tl,fun b hb hx=>(hTS b (.inl hb)).2 (h.td b hb hx),fun b hb=>(hTS b (.inl hb)).1.2,fun b hb=>⟨(hTS b (.inr hb)).2 (h.st b hb).1,(hTS b (.inr hb)).1.2,(h.st b hb).2.2⟩,hn⟩
 ·rcases hb with q|q
  ·obtain ⟨r1,r2,r3⟩:=hZ b q;exact ⟨r1,r2,r3.elim (fun r=> .inl (.inl r)) .inr⟩
  ·exact ⟨Q7 (nD b q).1 hm.size,nD' b q, .inl (.inr q)⟩
 ·rcases hb with q|q
  ·exact (keepF b (.inl q)).1.trans hob
  ·obtain ⟨k1,k2,k3⟩:=hz.2.2 b (hZr b q);exact (hm.keep b k1 (jB hro hob (by assumption)) (fun hz'=>k2 (.inl hz'))).1.trans hob
theorem fM.others (hZr: ∀l,f.r=some l->m.fix l) {y':iQ} (h:fM m f N l t0 a St X T w0 q D nu o Z y w) (hro:RO D nu o w) (e1:w'.os=w.os) (e2:w'.tape=w.tape) (e3:w'.output=w.output) (hsz:w.heap.size<=w'.heap.size)
  (hk: ∀b,b<w.heap.size->D b∨(Z b∨(f.Z b∨X b∨b=l))∨owned nu o b∨m.fix b->w'.heap[b]? = w.heap[b]?) (hM:m.M (fun b=>D b∧ ¬(w.heap.size<=b∧b<w'.heap.size)) nu o (fun b=>Z b∨(f.Z b∨X b∨b=l)) y' w') :
  fM m f N l t0 a St X T w0 q (fun b=>D b∧ ¬(w.heap.size<=b∧b<w'.heap.size)) nu o Z y' w':=by
 have hz:=m.mS h.mm;have hs0:=h.size;have hF: ∀b,Fz D nu o w b->w'.heap[b]? = w.heap[b]? ∧Fz (fun b=>D b∧ ¬(w.heap.size<=b∧b<w'.heap.size)) nu o w' b:=fun b hf=>⟨hk b hf.1 (.inl hf.2.2),Q7 hf.1 hsz,hf.2.1,hf.2.2,fun hh=>by have:=hf.1;omega⟩
 refine ⟨hM,h.zz,⟨h.tm.len,fun i c x q1 q2=>(h.tm.at' i c x q1 q2).keep hF⟩,h.gG.keep hsz (fun b ob hb hob _=>(hk b (Q8.1 hob).1 ?_).trans hob),(hk l (hz.1 l (.inr (.inr (.inr rfl)))).1 (.inr (.inl (.inr (.inr (.inr rfl)))))).trans h.kf,e1.trans h.os,e2.trans h.tape,e3.trans h.output,Q6 h.size hsz,fun b hb=> ?_,h.xz,h.xt,h.tl,
  fun b hb hx=>⟨h.td b hb hx,fun hh=>by have:=h.tl b hb;omega⟩,h.to,fun b hb=>⟨⟨(h.st b hb).1,fun hh=>by have:=(h.st b hb).2.2;omega⟩,(h.st b hb).2⟩,h.n⟩
 ·rcases hb with q|q
  ·exact .inr (.inl (.inr (.inl q)))
  ·exact .inr (.inr (.inr (hZr b q)))
 ·refine (hk b ?_ ?_).trans (h.same b hb)
  ·rcases hb with q|q
   ·have:=h.tl b q;omega
   ·have:=(h.st b q).2.2;omega
  ·rcases hb with q|q
   ·by_cases hx:X b
    ·exact .inr (.inl (.inr (.inr (.inl hx))))
    ·exact .inl (h.td b q hx)
   ·exact .inl (h.st b q).1
def FT (P:Program) (m:WM P) (f:Fr) (N l:Nat) (t0:List AV) (a:Act) (St X T:Nat->Prop) (w0:World) (q:Loop) (hmn:m.n0<=N) (hZr: ∀l,f.r=some l->m.fix l) (ht0: ∀(i:Nat) c,t0[i]? = some c->c.wf N=true):WM P where
 n0:=N
 fix:=fun b=>m.fix b∨f.Z b∨X b∨b=l
 M:=fM m f N l t0 a St X T w0 q
 step:=fun h hro hm hro' hra hD1 hD2 hZ hn=>h.step hmn hZr ht0 hro hm hro' hra hD1 hD2 hZ hn
 mS:=fun h=>by
  have hz:=m.mS h.mm;refine ⟨fun b hb=>hz.1 b (.inl hb),h.n,fun b hb=> ?_⟩
  rcases hb with q|q
  ·obtain ⟨k1,k2,k3⟩:=hz.2.2 b q;exact ⟨k1,fun hh=>k2 (.inl hh),k3⟩
  ·exact ⟨(hz.1 b (.inr q)).1,h.zz b q,(hz.1 b (.inr q)).2⟩
 yield:=fun {D nu o Z l' x rest w vals} h hro hra hw=>by
  obtain ⟨fn,tmps,assign,body,hrun,hround⟩:=m.yield h.mm hro hra hw;refine ⟨fn,tmps,assign,body,hrun,hround.mono fun e w' he=> ?_⟩;obtain ⟨⟨e1,e2,e3,hsz,hk⟩,he⟩:=he
  refine ⟨⟨e1,e2,e3,hsz,fun b hb hh=>hk b hb ?_⟩, ?_⟩
  ·rcases hh with q|q|q|q|q
   ·exact .inl q
   ·exact .inr (.inl (.inl q))
   ·exact .inr (.inr (.inl q))
   ·exact .inr (.inr (.inr q))
   ·exact .inr (.inl (.inr q))
  ·rcases he with ⟨rfl,hM⟩|⟨rfl,hM⟩
   ·exact .inl ⟨rfl,h.others hZr hro e1 e2 e3 hsz hk hM⟩
   ·exact .inr ⟨rfl,h.others hZr hro e1 e2 e3 hsz hk hM⟩
theorem fM.close (h:fM m f N l t0 a St X T w0 q D nu o Z y w) (hro:RO D nu o w):Core m f N l t0 a St q (fun b=>D b∨Z b) nu o y X T w:=by
 have hz:=m.mS h.mm;have hs0:=h.size
 have key:=Dg (C:=fun _=>False) (D':=fun b=>D b∨Z b) (Z':=fun b=>f.Z b∨X b∨b=l) (w':=w) (t:=t0) (a:=a) (f:=f) m h.mm ⟨hro,h.tm,h.gG⟩ rfl rfl rfl (Q5 _) (fun b hb _=>rfl) (fun b hb=>hb.elim) (fun b hb hd=> .inl hd) (fun b hb=> .inl (hro.up b hb)) (fun b hd=>hd.elim .inl (fun q=> .inr (.inl q)))
  (fun b h1 h2=>by omega) (fun b hb=>⟨(hz.1 b (.inr hb)).1,fun hd=>hd.elim (hz.1 b (.inr hb)).2 (h.zz b hb), .inl (.inr hb)⟩)
 exact ⟨key.1,key.2,h.xz,h.xt,fun b hb=>by have:=h.tl b hb;omega,fun b hb hx=> .inl (h.td b hb hx),h.to,fun b hb=>⟨.inl (h.st b hb).1,(h.st b hb).2.1,by have:=(h.st b hb).2.2;omega⟩,h.kf,h.n⟩
theorem fM.put (hZr: ∀l,f.r=some l->m.fix l) (hl: ¬f.Z l) {f':Fr} {t:List AV} {a':Act} (hf':f'.r=some l∧f'.B=0∧f'.Z=Z) (h:fM m f N l t0 a St X T w0 q D nu o Z y w) (hs:RS f' D nu ⟨t,o,y⟩ a' w) (q':Loop) (hT: ∀b,T b∨St b->b≠l) :
  fM m f N l t0 a St X T w0 q' D nu o Z y (w.putObj l (.loop q'))∧RS f' D nu ⟨t,o,y⟩ a' (w.putObj l (.loop q')):=by
 have hz:=m.mS h.mm;have hll:l<w.heap.size:=(Q8.1 h.kf).1;have hrl:f.r≠some l:=fun e=>(hz.2.2 l (hZr l e)).2.1 (.inr (.inr (.inr rfl)))
 have hsz:(w.putObj l (.loop q')).heap.size=w.heap.size:=by simp
 have key:=Dg (C:=fun b=>b=l) (D':=D) (Z':=fun b=>Z b∨(f.Z b∨X b∨b=l)) (w':=w.putObj l (.loop q')) (t:=t0) (a:=a) (f:=f) m h.mm ⟨hs.ro,h.tm,h.gG⟩ rfl rfl rfl (by simp) (fun b hb hne=>World.putObj_heap_other hne) (fun b hb=>⟨.inr (.inr (.inr hb)),by rw [hb];exact hl,by rw [hb];exact hrl⟩)
  (fun b hb hd=>hd) (fun b hb=>hs.ro.up b (by simpa using hb)) (fun b hd=> .inl hd) (fun b hb hb'=>absurd hb' (by simp;omega)) (fun b hb=>⟨by simpa using (hz.1 b hb).1,(hz.1 b hb).2, .inl hb⟩)
 have hF: ∀b,Fz D nu o w b->(w.putObj l (.loop q')).heap[b]? = w.heap[b]? ∧Fz D nu o (w.putObj l (.loop q')) b:=fun b hf=>⟨World.putObj_heap_other (fun e=>by rw [e] at hf;exact (hz.1 l (.inr (.inr (.inr rfl)))).2 hf.2.2),by rw [hsz];exact hf.1,hf.2⟩;refine ⟨⟨key.1,h.zz,key.2.tm,key.2.gG,World.putObj_heap_same hll,h.os,h.tape,h.output,by rw [hsz];exact h.size,fun b hb=>(World.putObj_heap_other (hT b hb)).trans (h.same b hb),h.xz,h.xt,h.tl,h.td,h.to,h.st,h.n⟩,key.2.ro,⟨hs.tm.len,fun i c x q1 q2=>(hs.tm.at' i c x q1 q2).keep hF⟩, ?_⟩;obtain ⟨rs,k1,k2,k3⟩:=hs.gG.marks
 refine ⟨by rw [hf'.2.1];exact Nat.zero_le _,⟨rs,k1,k2,fun x hx=>⟨(k3 x hx).1,(k3 x hx).2.1,(World.putObj_heap_other (fun e=> ?_)).trans (k3 x hx).2.2⟩⟩,fun l' hl'=> ?_⟩
 ·have:=(k3 x hx).2.1
  rw [hf'.2.2,e] at this;exact h.zz l (.inr (.inr rfl)) this
 ·rw [hf'.1] at hl';cases hl';exact ⟨q',World.putObj_heap_same hll⟩
def fU (ps:List Nat) (x t:List AV):List AV:=(ps.zip x).foldl (fun t pv=>t.set pv.1 pv.2) t
theorem qS: ∀(ps:List Nat) (x t:List AV) (vs:List Value) (tmps:Array Value),fX D nu o w t tmps->x.length=vs.length->(∀(i:Nat) c v,x[i]? = some c->vs[i]? = some v->RA D nu o w c v)->fX D nu o w (fU ps x t) ((ps.zip vs).foldl (fun tmps p=>tmps.setIfInBounds p.1 p.2) tmps)
 | [],x,t,vs,tmps,h,_,_=>by simpa [fU] using h
 | p :: ps,[],t,[],tmps,h,_,_=>by simpa [fU] using h
 | p :: ps,c :: x,t,v :: vs,tmps,h,hl,hx=>by
  have h1:fX D nu o w (t.set p c) (tmps.setIfInBounds p v):=by
   refine ⟨by simpa using h.len,fun i c' v' q1 q2=> ?_⟩
   by_cases hd:p=i
   ·subst hd;have hlt:=(Ra.1 q1).1;simp only [List.length_set] at hlt;rw [List.getElem?_set_self hlt] at q1;rw [Array.getElem?_setIfInBounds_self_of_lt (by have:=h.len;omega)] at q2;cases q1;cases q2;exact hx 0 c v rfl rfl
   ·rw [List.getElem?_set_ne hd] at q1;rw [Array.getElem?_setIfInBounds_ne hd] at q2;exact h.at' i c' v' q1 q2
  exact qS ps x _ vs _ h1 (by simpa using hl) (fun i c' v' q1 q2=>hx (i+1) c' v' (by simpa using q1) (by simpa using q2))
 | p :: ps,[],t,v :: vs,tmps,_,hl,_=>by simp at hl
 | p :: ps,c :: x,t,[],tmps,_,hl,_=>by simp at hl
def aZ.code:aZ->Code
 | .normal=> .skip
 | .exit id=> .exit id
 | .goto l=> .goto l
 | .ret=> .ret
def ln (N:Nat) (t0:List AV) (p:Prop) (o':List (Option aa)) (y':iQ) (Q:aZ->AS->Prop) (e:aZ) (s:AS):Prop:=match e with
 | .normal=>p∧Wk N ⟨t0,s.o,s.y⟩ ⟨t0,o',y'⟩
 | e=>Q e ⟨t0,s.o,s.y⟩
def lv (P:Program) (N:Nat) (body:Code) (R:aZ->AS->Prop) (e:aZ) (s:AS):Prop:=match e with
 | .normal=>cF P N body s R
 | _=>False
def zq (hmx:P.follows .mixedOrders=true) (m:WM P) (f:Fr) (N l:Nat) (t0:List AV) (a:Act) (St:Nat->Prop) (q:Loop) (O:Nat->List (Option aa)) (Y:Nat->iQ) (ok:Nat->Prop) (L:List (List AV)) (Q:aZ->AS->Prop) (hmn:m.n0<=N) (hZr: ∀l,f.r=some l->m.fix l) (hl: ¬f.Z l) (ht0: ∀(i:Nat) c,t0[i]? = some c->c.wf N=true)
  (hq:q.state = .ready∧q.pending=none∧q.tmps=a.tmps) (hA:b6 q.assign=true) (hB:b6 q.body=true) (har: ∀x,x∈L->x.length=q.params.size)
  (hround: ∀k x,ok k->L[k]? = some x->cF P N q.assign ⟨fU q.params.toList x t0,O k,Y k⟩ (lv P N q.body (ln N t0 (ok (k+1)) (O (k+1)) (Y (k+1)) Q))):vv P l where
 J:=fun rest X T w=> ∃k D nu,rest=L.drop k∧(k<=L.length∧ok k)∧Core m f N l t0 a St q D nu (O k) (Y k) X T w
 Jx:=fun X T w=> ∃e D nu o y,e ≠ .normal∧Q e ⟨t0,o,y⟩∧Core m f N l t0 a St { q with state:= .done,pending:=some e.code } D nu o y X T w
 St:=St
 nT:=fun h ha hx=>by
  obtain ⟨k,D,nu,h1,h2,h3⟩:=h;exact ⟨k,_,nu,h1,h2,h3.nT hZr ha hx⟩
 yr:=fun h ha hx=>by
  obtain ⟨e,D,nu,o,y,h1,h2,h3⟩:=h;exact ⟨e,_,nu,o,y,h1,h2,h3.nT hZr ha hx⟩
 round:=fun {x rest X T w D nu vals} hJ hra hw hD=>by
  obtain ⟨k,Dc,nuc,hrest,⟨hk,hok⟩,hc⟩:=hJ
  have hlt:k<L.length:=by
   rcases Rc k L.length with h|h
   ·exact h
   ·rw [List.drop_eq_nil_of_le h] at hrest;cases hrest
  rw [Ss hlt] at hrest;obtain ⟨hx,hrest⟩:=List.cons.inj hrest
  have hxk:L[k]? = some x:=by rw [hx];exact Rp hlt
  have hz:=m.mS hc.mm
  have hra':fX Dc nuc (O k) w x vals:=⟨hra.len,fun i c v q1 q2=>(hra.at' i c v q1 q2).tr (n:=0) (fun b hf=>by
   obtain ⟨h1,h2⟩:=hD b hf.1 hf.2.2
   rcases h1 with h1|h1
   ·exact ⟨hf.1,hc.to b h1,hc.td b h1 h2⟩
   ·exact ⟨hf.1,(hc.st b h1).2.1,(hc.st b h1).1⟩) (fun id len hlt=>by omega) (bU hw q1)⟩
  have hTl: ∀b,T b∨St b->b≠l:=fun b hb e=>by
   have hnl: ¬Dc l:=(hz.1 l (.inr (.inr rfl))).2
   rcases hb with h|h
   ·by_cases hxb:X b
    ·exact (hc.xz b hxb).2 e
    ·exact hnl (e ▸ hc.td b h hxb)
   ·exact hnl (e ▸ (hc.st b h).1)
  have hlen:vals.size=q.params.size:=by rw [<-hra.len,har x (RK hxk)]
  refine ⟨q.fn,_,q.assign,q.body,run_yield hc.kf hlen,roundIn_of_wpIn trivial ?_⟩
  have htm:fX Dc nuc (O k) w (fU q.params.toList x t0) ((q.params.zip vals).foldl (fun tmps (t,a)=>tmps.setIfInBounds t a) q.tmps):=by
   have:=qS q.params.toList x t0 vals.toList a.tmps hc.rs.tm (by simpa using hra.len) (fun i c v q1 q2=>hra'.at' i c v q1 (by simpa using q2))
   rw [<-hq.2.2] at this;rw [<-Array.toList_zip,Array.foldl_toList] at this;exact this
  have hs:RS ⟨0,some l,fun _=>False⟩ Dc nuc ⟨fU q.params.toList x t0,O k,Y k⟩ { tmps:=(q.params.zip vals).foldl (fun tmps (t,a)=>tmps.setIfInBounds t a) q.tmps,defers:=[] } w:=
   ⟨hc.rs.ro,htm,⟨Nat.zero_le _,⟨[],Sr,rfl,fun x hx=>(by cases hx)⟩,fun l' hl'=>by cases hl';exact ⟨q,hc.kf⟩⟩⟩
  refine Gj (n:=9) (ib (f:=⟨0,some l,fun _=>False⟩) hmx (FT P m f N l t0 a St X T w q hmn hZr ht0) (fun l' hl'=>by cases hl';exact .inr (.inr (.inr rfl))) (Q5 N) q.assign hA ⟨fU q.params.toList x t0,O k,Y k⟩ _ w Dc nuc (fun _=>False) _ _ (fun a w h=>h) hc.round hs (hround k x hok hxk) (fun e D1 Z1 s1 a1 w1 nu1 h1 h2 h3=> ?_))
  cases e with
  | exit i=>exact h3.elim
  | goto i=>exact h3.elim
  | ret=>exact h3.elim
  | normal=>
   refine ⟨_,run_beginRound h1.kf hq.1, ?_⟩;obtain ⟨h4,h5⟩:=h1.put hZr hl (f':=(Fr.mk 0 (some l) (fun _=>False)).wz Z1) ⟨rfl,rfl,rfl⟩ h2 { q with state:= .busy } hTl;refine Gj (n:=9) (ib (f:=⟨0,some l,fun _=>False⟩) hmx (FT P m f N l t0 a St X T w { q with state:= .busy } hmn hZr ht0) (fun l' hl'=>by cases hl';exact .inr (.inr (.inr rfl))) (Q5 N) q.body hB s1 a1 _ D1 nu1 Z1 _ _ (fun a w h=>h) h4 h5 h3 (fun e D2 Z2 s2 a2 w2 nu2 k1 k2 k3=> ?_));have hcl:=k1.close k2.ro;have hkept: ∀q',DH (fun b=>T b∨St b) w (w2.putObj l (.loop q')):=fun q'=>⟨k1.os,k1.tape,k1.output,by simpa using k1.size,fun b _ hb=>(World.putObj_heap_other (hTl b hb)).trans (k1.same b hb)⟩
   have jump: ∀e,e ≠ .normal->Q e ⟨t0,s2.o,s2.y⟩-> ∃v w',(Instr.endRound l (some e.code)).run P w2 = .ok v w'∧(DH (fun b=>T b∨St b) w w'∧((Ending.returned v = .returned (.bool true)∧ ∃k D nu,rest=L.drop k∧(k<=L.length∧ok k)∧Core m f N l t0 a St q D nu (O k) (Y k) X T w')∨(Ending.returned v = .returned (.bool false)∧ ∃e D nu o y,e ≠ .normal∧Q e ⟨t0,o,y⟩∧Core m f N l t0 a St { q with state:= .done,pending:=some e.code } D nu o y X T w'))):=fun e he hQ=>by
    refine ⟨_,_,run_endRound (some e.code) k1.kf,hkept _, .inr ⟨rfl,e,(fun b=>D2 b∨Z2 b),nu2,s2.o,s2.y,he,hQ, ?_⟩⟩;exact hcl.put hZr hl _
   cases e with
   | normal=>
    refine ⟨_,_,run_endRound none k1.kf,hkept _, .inl ⟨rfl,k+1,(fun b=>D2 b∨Z2 b),nu2,hrest,⟨hlt,k3.1⟩, ?_⟩⟩
    have:=(hcl.put hZr hl { q with state:= .ready,pending:=none }).I1 hmn k3.2
    have e:({ q with state:= .ready,pending:=none }:Loop)=q:=by
     obtain ⟨e1,e2,_⟩:=hq;cases q;simp only at e1 e2;subst e1;subst e2;rfl
    rw [e] at this;simp only [Option.isNone_none,if_true];have e':({ { q with state:= .busy } with state:= .ready,pending:=none }:Loop)=q:=e;rw [e'];exact this
   | exit i=>exact jump (.exit i) (by simp) k3
   | goto i=>exact jump (.goto i) (by simp) k3
   | ret=>exact jump .ret (by simp) k3
theorem zt (m:WM P) {f:Fr} {t:List AV} {a:Act} {o:List (Option aa)} {y:iQ} (hm:m.M D nu o f.Z y w) (hs:RS f D nu ⟨t,o,y⟩ a w) (fn:FuncId) (ps:Array Tmp) (assign body:Code) :
  ∃l mk w1 Z1 q D1,(Instr.enterLoop fn a.tmps ps assign body f.r).run P w = .ok (l,mk) w1∧(q.state = .ready∧q.pending=none∧q.tmps=a.tmps)∧(q.params=ps∧q.assign=assign∧q.body=body)∧ ¬Z1 l∧w1.heap[l]? = some (.loop q)∧Below w.heap.size w w1 ∧
   m.M D1 nu o (fun b=>Z1 b∨b=l) y w1∧RS (f.wz Z1) D1 nu ⟨t,o,y⟩ { a with defers:=mk++a.defers } w1∧(∀b,b<w.heap.size->D b->D1 b)∧(∀b,D1 b->D b)∧ ∀b,f.Z b->Z1 b:=by
 have hz:=m.mS hm
 have gen: ∀(w1:World) (Z1:Nat->Prop) (l:Nat),Below w.heap.size w w1->(∀b,f.Z b->Z1 b)->(∀b,Z1 b->f.Z b∨(w.heap.size<=b∧b<w1.heap.size))->w.heap.size<=l->l<w1.heap.size ->
   m.M (fun b=>D b∧ ¬(Z1 b∨b=l)) nu o (fun b=>Z1 b∨b=l) y w1∧RS f (fun b=>D b∧ ¬(Z1 b∨b=l)) nu ⟨t,o,y⟩ a w1:=fun w1 Z1 l hb h1 h2 h3 h4=>by
  refine Dg (C:=fun _=>False) m hm hs hb.os hb.tape hb.output hb.size (fun b hlt _=>hb.block b hlt) (fun b h=>h.elim) (fun b hlt hd=>⟨hd,fun hh=> ?_⟩) (fun b hge=>⟨hs.ro.up b (Q6 hb.size hge),fun hh=> ?_⟩) (fun b hd=> .inl hd.1) (fun b hge hlt=> ?_) (fun b hh=>⟨?_,fun hd=>hd.2 hh, ?_⟩)
  ·rcases hh with q|q
   ·rcases h2 b q with r|r
    ·exact (hz.1 b r).2 hd
    ·omega
   ·omega
  ·rcases hh with q|q
   ·rcases h2 b q with r|r
    ·have:=(hz.1 b r).1;have:=hb.size;omega
    ·omega
   ·omega
  ·by_cases hh:Z1 b∨b=l
   ·exact .inr hh
   ·exact .inl ⟨hs.ro.up b hge,hh⟩
  ·rcases hh with q|q
   ·rcases h2 b q with r|r
    ·exact Q7 (hz.1 b r).1 hb.size
    ·exact r.2
   ·omega
  ·rcases hh with q|q
   ·rcases h2 b q with r|r
    ·exact .inl r
    ·exact .inr r.1
   ·exact .inr (by omega)
 cases hr:f.r with
 | none=>
  obtain ⟨q,hq⟩: ∃q:Loop,q={ state:= .ready,pending:=none,fn,tmps:=a.tmps,params:=ps,assign,body,defers:=w.heap.size }:=⟨_,rfl⟩;obtain ⟨w1,hw1⟩: ∃w1,w1=(w.alloc (.deferred (some []))).alloc (.loop q):=⟨_,rfl⟩
  have hb:Below w.heap.size w w1:=by rw [hw1];exact ((Below.refl _ w).alloc (Q5 _) _).alloc (by simp) _
  have hsz:w1.heap.size=w.heap.size+2:=by rw [hw1];simp
  have hL:w1.heap[w.heap.size+1]? = some (.loop q):=by
   rw [hw1];have:=World.alloc_heap_new (w.alloc (.deferred (some []))) (.loop q);rwa [World.size_alloc] at this
  have hK:w1.heap[w.heap.size]? = some (.deferred (some [])):=by
   rw [hw1];exact (Below.heap_alloc _ _ _ (by simp)).trans (World.alloc_heap_new w _)
  obtain ⟨g1,g2⟩:=gen w1 (fun b=>f.Z b∨b=w.heap.size) (w.heap.size+1) hb (fun b h=> .inl h) (fun b h=>h.elim .inl (fun e=> .inr (by omega))) (by omega) (by omega)
  refine ⟨w.heap.size+1,[za w.heap.size],w1,(fun b=>f.Z b∨b=w.heap.size),q,_, ?_,by rw [hq];exact ⟨rfl,rfl,rfl⟩,by rw [hq];exact ⟨rfl,rfl,rfl⟩, ?_,hL,hb,g1,⟨g2.ro,g2.tm, ?_⟩, ?_,fun b hd=>hd.1,fun b h=> .inl h⟩
  ·rw [hw1,hq];exact run_enterLoop_outer _ _ _ _ _
  ·rintro (h|h)
   ·have:=(hz.1 _ h).1;omega
   ·omega
  ·obtain ⟨rs,k1,k2,k3⟩:=g2.gG.marks
   refine ⟨g2.gG.base,⟨w.heap.size :: rs,List.nodup_cons.2 ⟨fun hm=> ?_,k1⟩,by simp only [List.map_cons,List.singleton_append];rw [k2],fun x hx=> ?_⟩,g2.gG.loop⟩
   ·have:=(hz.1 _ (k3 _ hm).2.1).1;omega
   ·rcases List.mem_cons.1 hx with e|e
    ·subst e;exact ⟨hs.gG.base, .inr rfl,hK⟩
    ·exact ⟨(k3 x e).1, .inl (k3 x e).2.1,(k3 x e).2.2⟩
  ·refine fun b hlt hd=>⟨hd,fun hh=> ?_⟩
   rcases hh with (q|q)|q
   ·exact (hz.1 b q).2 hd
   ·omega
   ·omega
 | some l0=>
  obtain ⟨q0,hq0⟩:=hs.gG.loop l0 hr;obtain ⟨q,hq⟩: ∃q:Loop,q={ state:= .ready,pending:=none,fn,tmps:=a.tmps,params:=ps,assign,body,defers:=q0.defers }:=⟨_,rfl⟩;obtain ⟨w1,hw1⟩: ∃w1,w1=w.alloc (.loop q):=⟨_,rfl⟩
  have hb:Below w.heap.size w w1:=by rw [hw1];exact (Below.refl _ w).alloc (Q5 _) _
  have hsz:w1.heap.size=w.heap.size+1:=by rw [hw1];simp
  have hL:w1.heap[w.heap.size]? = some (.loop q):=by rw [hw1];exact World.alloc_heap_new w _
  obtain ⟨g1,g2⟩:=gen w1 f.Z w.heap.size hb (fun b h=>h) (fun b h=> .inl h) (by omega) (by omega)
  refine ⟨w.heap.size,[],w1,f.Z,q,_, ?_,by rw [hq];exact ⟨rfl,rfl,rfl⟩,by rw [hq];exact ⟨rfl,rfl,rfl⟩, ?_,hL,hb,g1,⟨g2.ro,g2.tm, ?_⟩, ?_,fun b hd=>hd.1,fun b h=>h⟩
  ·rw [hw1,hq];exact run_enterLoop_inner hq0 _ _ _ _ _
  ·intro h;have:=(hz.1 _ h).1;omega
  ·exact g2.gG.Jt (fun b h=>h)
  ·refine fun b hlt hd=>⟨hd,fun hh=> ?_⟩
   rcases hh with q|q
   ·exact (hz.1 b q).2 hd
   ·omega
theorem px {n0:Nat} {s:AS} {Q:aZ->AS->Prop} {g:Operand} {ps:Array Tmp} {assign body:Code} {gf:FuncId} {caps0:List AV} {oI:List (Option aa)} {L:List (List AV)} (hseq:gy P gf caps0 oI L) (ids:List Nat) (hnd:ids.Nodup)
  (hids:ids.map (fun i=>s.o[i]?)=oI.map (fun x=>some (x.map (aa.bc (sig ids s.o.length))))) (hwo: ∀(k:Nat) ob,oI[k]? = some (some ob)->dA ids.length ob.rows=true) (O:Nat->List (Option aa)) (Y:Nat->iQ) (ok:Nat->Prop) (h0:ok 0) (t0:List AV)
  (hg:s.ev g = .fn gf [] (bV (sig ids s.o.length) caps0)) (hcaps:bn ids.length caps0=true) (hdead: ∀i,i∈ids-> ∀ob,(O 0)[i]? ≠ some (some ob)) (hwk:Wk n0 s ⟨t0,O 0,Y 0⟩) (hA:b6 assign=true) (hB:b6 body=true) (har: ∀x,x∈L->x.length=ps.size)
  (hround: ∀k x,ok k->L[k]? = some x->cF P (O 0).length assign ⟨fU ps.toList x t0,O k,Y k⟩ (lv P (O 0).length body (ln (O 0).length t0 (ok (k+1)) (O (k+1)) (Y (k+1)) Q)))
  (hfin:ok L.length->Q .normal ⟨t0,O L.length,Y L.length⟩):cF P n0 (.rangeFunc g ps assign body) s Q:=by
 intro f m D nu a w hZr hn hm hs hmx R hO hR;have hgv:=hs.ev g;rw [hg] at hgv
 obtain ⟨ca,hgv',hca⟩: ∃ca,a.eval g = .func (.func gf) #[] ca∧fX D nu s.o w (bV (sig ids s.o.length) caps0) ca:=by
  revert hgv
  generalize a.eval g=v;intro hgv
  cases hgv with
  | fn _ _ _ fi ca h1 h2 _ h4=>
   obtain rfl:fi = #[]:=Array.eq_empty_of_size_eq_zero (by simpa using h1.symm);exact ⟨ca,rfl,h2,h4⟩
 have hz:=m.mS hm;obtain ⟨ro0,own0,fz0,hdr0,obj0⟩:=pW ids hs.ro hnd hids hwo;obtain ⟨X,hX⟩: ∃X:Nat->Prop,X=owned (fun k len=>nu (sig ids s.o.length k) len) oI:=⟨_,rfl⟩;rw [<-hX] at own0;obtain ⟨_,al,_⟩:=ji hwk
 have Xn: ∀b,X b-> ¬owned nu (O 0) b:=fun b hb ⟨id,ob,h1,h2⟩=>by
  rw [hX] at hb;obtain ⟨k,ob',h3,h4⟩:=hb;obtain ⟨i,q1,q2,q3⟩:=obj0 k ob' h3;have hne:i≠id:=fun e=>hdead i (RK q1) ob (by rw [e];exact h1);refine hs.ro.sep i id _ _ b q3 (al id ob h1) hne ?_ h2;rw [aa.ep, <- q2];exact h4
 have XD: ∀b,X b->D b∧b<w.heap.size:=fun b hb=>⟨hs.ro.fB (own0 b hb),hs.ro.aU (own0 b hb)⟩
 
 have hFX: ∀b,Fz D nu s.o w b->D b∧ ¬X b:=fun b hf=>⟨hf.2.2,fun hx=>hf.2.1 (own0 b hx)⟩
 have hs2:RS (f.wz (fun b=>f.Z b∨X b)) (fun b=>D b∧ ¬X b) nu ⟨t0,O 0,Y 0⟩ a w:=by
  have:=x0 (D':=fun b=>D b∧ ¬X b) hwk hs hFX (fun b ho=>⟨hs.ro.fB (by obtain ⟨id,ob,h1,h2⟩:=ho;exact ⟨id,ob,al id ob h1,h2⟩),fun hx=>Xn b hx ho⟩) (fun b hb=>⟨hs.ro.up b hb,fun hx=>by have:=(XD b hx).2;omega⟩)
  exact ⟨this.ro,this.tm,this.gG.Jt (fun b h=> .inl h)⟩
 have hm2:m.M (fun b=>D b∧ ¬X b) nu (O 0) (fun b=>f.Z b∨X b) (Y 0) w:=by
  have hy:s.y=Y 0:=hwk.y;rw [<-hy];exact m.step hm hs.ro hwk.sH hs2.ro (fun c v hr hc=>hwk.PX hFX hr hc) (fun _ h=> .inl h.1) (fun b h=>(Classical.em (X b)).elim (fun q=> .inr (.inr q)) (fun q=> .inl ⟨h,q⟩)) (fun b hb=>hb.elim (fun q=>⟨(hz.1 b q).1,fun hd=>(hz.1 b q).2 hd.1, .inl q⟩) (fun q=>⟨(XD b q).2,fun hd=>hd.2 q, .inr (.inl (own0 b q))⟩)) (Q6 hn hwk.n)
 have hmn:m.n0<=(O 0).length:=Q6 hn hwk.n
 have ht0: ∀(i:Nat) c,t0[i]? = some c->c.wf (O 0).length=true:=fun i c hc=>by
  rcases (tC hwk.t).2 i c hc with e|e
  ·rw [e];rfl
  ·exact e.2
 refine wpIn_rangeFunc (F:=WF f.r) (n:=9) (fun fn _=> ?_);obtain ⟨l,mk,w1,Z1,q,D1,hent,hq,⟨rfl,rfl,rfl⟩,hl,hL,hb,hM1,hS1,hDD,hDD',hZZ⟩:=zt (f:=f.wz (fun b=>f.Z b∨X b)) m hm2 hs2 fn ps assign body;obtain ⟨St,hSt⟩: ∃St:Nat->Prop,St=fun b=>b<w.heap.size∧D b∧ ¬owned nu s.o b:=⟨_,rfl⟩;have hno: ∀b,b<w.heap.size-> ¬owned nu s.o b-> ¬owned nu (O 0) b:=fun b h1 h2=>((hwk.sH (nu:=nu) (w:=w) (Z:=fun _=>False)).keep b h1 h2 (fun h=>h)).2;have hXZ: ∀b,X b->Z1 b:=fun b hx=>hZZ b (.inr hx);have hXl: ∀b,X b->b≠l:=fun b hx e=>hl (e ▸ hXZ b hx);have hl': ¬(fun b=>Z1 b∧ ¬X b) l:=fun h=>hl h.1;have hZr': ∀l,(f.wz (fun b=>Z1 b∧ ¬X b)).r=some l->m.fix l:=hZr
 have hXnote: ∀b,X b-> ∀ob,w1.heap[b]? = some ob->qd ob=false:=fun b hx ob hob=>by
  rw [hb.block b (XD b hx).2] at hob
  cases hn:qd ob with
  | false=>rfl
  | true=>exact absurd (own0 b hx) (jB hs.ro hob hn)
 have hcore:Core m (f.wz (fun b=>Z1 b∧ ¬X b)) (O 0).length l t0 { a with defers:=mk++a.defers } St q D1 nu (O 0) (Y 0) X X w1:=by
  have e:(fun b=>(f.wz (fun b=>Z1 b∧ ¬X b)).Z b∨X b∨b=l)=(fun b=>Z1 b∨b=l):=funext fun b=>propext ⟨fun h=>h.elim (fun q=> .inl q.1) (fun q=>q.elim (fun q=> .inl (hXZ b q)) .inr),fun h=>h.elim (fun q=>(Classical.em (X b)).elim (fun hx=> .inr (.inl hx)) (fun hx=> .inl ⟨q,hx⟩)) (fun q=> .inr (.inr q))⟩
  refine ⟨by rw [e];exact hM1,⟨hS1.ro,hS1.tm,hS1.gG.base, ?_,hS1.gG.loop⟩,fun b h=>⟨fun hh=>hh.2 h,hXl b h⟩,fun b h=>h,fun b h=>Q7 (XD b h).2 hb.size,fun b h h'=>absurd h h',Xn,fun b h=> ?_,hL,Q5 _⟩
  ·obtain ⟨rs,k1,k2,k3⟩:=hS1.gG.marks;exact ⟨rs,k1,k2,fun x hx=>⟨(k3 x hx).1,⟨(k3 x hx).2.1,fun hxx=>by have:=hXnote x hxx _ (k3 x hx).2.2;cases this⟩,(k3 x hx).2.2⟩⟩
  ·rw [hSt] at h;exact ⟨hDD b h.1 ⟨h.2.1,fun hx=>h.2.2 (own0 b hx)⟩,hno b h.1 h.2.2,Q7 h.1 hb.size⟩
 let pr:=zq (P:=P) hmx m (f.wz (fun b=>Z1 b∧ ¬X b)) (O 0).length l t0 { a with defers:=mk++a.defers } St q O Y ok L Q hmn hZr' hl' ht0 hq hA hB har hround
 have hFI: ∀b,Fz (fun b=>D b∧ ¬(b<w.heap.size∧ ∃id ob,id∉ids∧s.o[id]? = some (some ob)∧cW (nu id ob.hl)=some b)) (fun k len=>nu (sig ids s.o.length k) len) oI w b->w1.heap[b]? = w.heap[b]? ∧Fz (fun b=>St b∨X b∨w1.heap.size<=b) (fun k len=>nu (sig ids s.o.length k) len) oI w1 b:=fun b hf=>by
  refine ⟨hb.block b hf.1,Q7 hf.1 hb.size,hf.2.1, .inl ?_⟩;rw [hSt];refine ⟨hf.1,hf.2.2.1,fun ⟨id,ob,h1,h2⟩=> ?_⟩
  by_cases hmem:id∈ids
  ·obtain ⟨k,hk⟩:=List.getElem?_of_mem hmem;have e:=congrArg (fun l=>l[k]?) hids;simp only [List.getElem?_map,hk,Option.map_some,h1] at e
   cases hy:oI[k]? with
   | none=>rw [hy] at e;cases e
   | some y=>
    rw [hy] at e;simp only [Option.map_some,Option.some.injEq] at e;obtain ⟨ob0,rfl,rfl⟩:=Option.map_eq_some_iff.1 e.symm;refine hf.2.1 ⟨k,ob0,hy, ?_⟩;obtain ⟨i,q1,q2,_⟩:=obj0 k ob0 hy;rw [hk] at q1;cases q1;rw [aa.ep] at h2;show cW (nu (sig ids s.o.length k) _)=_;rw [q2];exact h2
  ·exact hf.2.2.2 ⟨hf.1,id,ob,hmem,h1,h2⟩
 have hcalls:=hseq.2 l pr (fun b=>St b∨X b∨w1.heap.size<=b) (fun k len=>nu (sig ids s.o.length k) len) w1 ca X (ro0.keep (fun b ho=>⟨hb.block b (ro0.aU ho), .inr (.inl (by rw [hX];exact ho))⟩) (fun b h=> .inr (.inr h)) hFI)
  ⟨by rw [<-hca.len,cp],fun i c v q1 q2=>((hca.at' i (c.bc (sig ids s.o.length)) v (by rw [bZ,q1];rfl) q2).xP (f:=sig ids s.o.length) (n:=ids.length) fz0 hdr0 c (bU hcaps q1) rfl).keep hFI⟩
  (fun b hb=>by rw [hX];exact hb) (fun b h=>by rw [hX] at h;exact h) (fun b hlt hd=>hd.elim .inr (fun h=>h.elim .inl (fun h=>by omega))) (fun b h=>(hcore.st b h).2.2) ⟨0,D1,nu,rfl,⟨Nat.zero_le _,h0⟩,hcore⟩
 refine ⟨l,mk,w1,{ target:= .fn (.func gf) ca,args:= #[.func (.yield l) #[] #[]] },w1,gf, #[.func (.yield l) #[] #[]]++ca,w1,hent, ?_,fun f' _=>trivial, ?_,fun h=>by simp, ?_⟩
 ·simp only [resolve,hgv'];simp [go_sem]
 ·simp [invoke,go_sem,gO hseq.1]
 ·refine jo (hcalls.mono fun e w3 he=> ?_);obtain ⟨⟨v,rfl⟩,X',T',he⟩:=he
  rcases he with ⟨k,D3,nu3,h1,⟨h2,hok⟩,h3⟩|⟨e,D3,nu3,o3,y3,h1,h2,h3⟩
  ·have hk:k=L.length:=by
    rcases Rc k L.length with h|h
    ·rw [Ss h] at h1;cases h1
    ·omega
   subst hk;obtain ⟨k1,k2⟩:=h3.done hZr' hl' { q with state:= .exhausted };have hend:=run_endLoop (P:=P) h3.kf (by rw [hq.1];simp);rw [hq.2.1] at hend;rw [show ({ q with state:= .exhausted }:Loop)={ q with state:= .exhausted } from rfl] at k1
   have k0:({ q with state:= .exhausted,pending:=none }:Loop)={ q with state:= .exhausted }:=by
    obtain ⟨e1,e2,_⟩:=hq;cases q;simp only at e2;subst e2;rfl
   refine ⟨none,_,hend, ?_⟩
   first
    | exact hR .normal _ (fun b=>Z1 b∧ ¬X b) ⟨t0,O L.length,Y L.length⟩ _ _ nu3 k1 k2 (hfin hok)
    | (rw [<-k0] at k1 k2;exact hR .normal _ (fun b=>Z1 b∧ ¬X b) ⟨t0,O L.length,Y L.length⟩ _ _ nu3 k1 k2 (hfin hok))
  ·refine ⟨some e.code,_,run_endLoop (P:=P) h3.kf (by simp), ?_⟩;obtain ⟨k1,k2⟩:=h3.done hZr' hl' { ({ q with state:= .done,pending:=some e.code }:Loop) with state:= .exhausted };have hh:=hR e _ (fun b=>Z1 b∧ ¬X b) ⟨t0,o3,y3⟩ _ _ nu3 k1 k2 h2
   cases e with
   | normal=>exact absurd rfl h1
   | exit i=>exact wpIn_exit hh
   | goto i=>exact wpIn_goto hh
   | ret=>exact wpIn_ret hh
theorem r8 {n0:Nat} {s:AS} {Q:aZ->AS->Prop} {g:Operand} {ps:Array Tmp} {assign body:Code} {gf:FuncId} {caps:List AV} {L:List (List AV)} (hseq:gy P gf caps [] L) (O:Nat->List (Option aa)) (Y:Nat->iQ) (ok:Nat->Prop) (h0:ok 0) (t0:List AV)
  (hg:s.ev g = .fn gf [] caps) (hcaps:bn 0 caps=true) (hwk:Wk n0 s ⟨t0,O 0,Y 0⟩) (hA:b6 assign=true) (hB:b6 body=true) (har: ∀x,x∈L->x.length=ps.size)
  (hround: ∀k x,ok k->L[k]? = some x->cF P (O 0).length assign ⟨fU ps.toList x t0,O k,Y k⟩ (lv P (O 0).length body (ln (O 0).length t0 (ok (k+1)) (O (k+1)) (Y (k+1)) Q)))
  (hfin:ok L.length->Q .normal ⟨t0,O L.length,Y L.length⟩):cF P n0 (.rangeFunc g ps assign body) s Q:=
 px hseq [] Sr rfl (fun k ob h=>by simp at h) O Y ok h0 t0 (by rw [dU _ _ hcaps];exact hg) hcaps (fun i h=>by simp at h) hwk hA hB har hround hfin
theorem A8 (P:Program) (rs:List ResultVar) (l:Nat) (s:AS):Dt P rs l .ret s=kX (jX P s rs) s.o (fun _ _=>s.y = .run l []∨s.y = .off):=rfl
theorem tw (P:Program) (rs:List ResultVar) (l:Nat) (s:AS):Dt P rs l .normal s=kX (jX P s rs) s.o (fun _ _=>s.y = .run l []∨s.y = .off):=rfl
theorem x9 (N:Nat) (t0:List AV) (p:Prop) (o':List (Option aa)) (y':iQ) (Q:aZ->AS->Prop) (i:Nat) (s:AS):ln N t0 p o' y' Q (.exit i) s=Q (.exit i) ⟨t0,s.o,s.y⟩:=rfl
theorem ya (N:Nat) (t0:List AV) (p:Prop) (o':List (Option aa)) (y':iQ) (Q:aZ->AS->Prop) (i:Nat) (s:AS):ln N t0 p o' y' Q (.goto i) s=Q (.goto i) ⟨t0,s.o,s.y⟩:=rfl
theorem A7 (N:Nat) (t0:List AV) (p:Prop) (o':List (Option aa)) (y':iQ) (Q:aZ->AS->Prop) (s:AS):ln N t0 p o' y' Q .ret s=Q .ret ⟨t0,s.o,s.y⟩:=rfl
theorem tv (N:Nat) (t0:List AV) (p:Prop) (o':List (Option aa)) (y':iQ) (Q:aZ->AS->Prop) (s:AS):ln N t0 p o' y' Q .normal s=(p∧Wk N ⟨t0,s.o,s.y⟩ ⟨t0,o',y'⟩):=rfl
theorem rk (P:Program) (N:Nat) (body:Code) (R:aZ->AS->Prop) (s:AS):lv P N body R .normal s=cF P N body s R:=rfl
attribute [go_sem] A8 tw x9 ya A7 tv rk fU
theorem fl {n0:Nat} {Q:aZ->AS->Prop} {ι:Type} {c:Code} {t:List AV} {o:List (Option aa)} {y:iQ} (m:Nat) (upd:ι->List (Nat×AV)) (ob:ι->List (Option aa)) (yy:ι->iQ) (mu:ι->Nat) (ok:ι->Prop) (i0:ι) (h3:ok i0) (h2:Wk n0 ⟨t,o,y⟩ ⟨kB (cR m t) (upd i0),ob i0,yy i0⟩)
  (h: ∀i,ok i-> ∀K:AS->Prop,(∀s2,aM n0 (fun i=>⟨kB (cR m t) (upd i),ob i,yy i⟩) mu ok (mu i) s2->K s2)->cF P n0 c ⟨kB (cR m t) (upd i),ob i,yy i⟩ (kZ K Q)):cF P n0 (.loop c) ⟨t,o,y⟩ Q:=
 j3 (fun i=>⟨kB (cR m t) (upd i),ob i,yy i⟩) mu ok i0 _ .refl h2 h3 h
end
end
section
section
variable {P:Program}
theorem yB {n0:Nat} {Q:aZ->AS->Prop} {t:List AV} {o:List (Option aa)} {y:iQ} {g:Operand} {ps:Array Tmp} {assign body:Code} {gf:FuncId} {caps:List AV} {L:List (List AV)} (hseq:gy P gf caps [] L) (m:Nat) (ok:Nat->Prop) (h0:ok 0)
  (hg:(AS.mk t o y).ev g = .fn gf [] caps) (hcaps:bn 0 caps=true) (hwk:Wk n0 ⟨t,o,y⟩ ⟨cR m t,o,y⟩) (hA:b6 assign=true) (hB:b6 body=true) (har: ∀x,x∈L->x.length=ps.size)
  (hround: ∀k x,ok k->L[k]? = some x->cF P o.length assign ⟨fU ps.toList x (cR m t),o,y⟩ (lv P o.length body (ln o.length (cR m t) (ok (k+1)) o y Q)))
  (hfin:ok L.length->Q .normal ⟨cR m t,o,y⟩):cF P n0 (.rangeFunc g ps assign body) ⟨t,o,y⟩ Q:=
 r8 hseq (fun _=>o) (fun _=>y) ok h0 (cR m t) hg hcaps hwk hA hB har hround hfin
theorem fP {n0:Nat} {Q:aZ->AS->Prop} {t:List AV} {o:List (Option aa)} {y:iQ} {g:Operand} {ps:Array Tmp} {assign body:Code} {gf:FuncId} {caps:List AV} {L:List (List AV)} (hseq:gy P gf caps [] L) (m:Nat) (O:Nat->List (Option aa)) (ok:Nat->Prop) (h0:ok 0)
  (hg:(AS.mk t o y).ev g = .fn gf [] caps) (hcaps:bn 0 caps=true) (hwk:Wk n0 ⟨t,o,y⟩ ⟨cR m t,O 0,y⟩) (hA:b6 assign=true) (hB:b6 body=true) (har: ∀x,x∈L->x.length=ps.size)
  (hround: ∀k x,ok k->L[k]? = some x->cF P (O 0).length assign ⟨fU ps.toList x (cR m t),O k,y⟩ (lv P (O 0).length body (ln (O 0).length (cR m t) (ok (k+1)) (O (k+1)) y Q)))
  (hfin:ok L.length->Q .normal ⟨cR m t,O L.length,y⟩):cF P n0 (.rangeFunc g ps assign body) ⟨t,o,y⟩ Q:=
 r8 hseq O (fun _=>y) ok h0 (cR m t) hg hcaps hwk hA hB har hround hfin
def vA (s s':AS):Prop:= ∀(f:Fr) (D:Nat->Prop) (nu:Nat->Nat->Value) (a:Act) (w:World),RS f D nu s a w-> ∃nu',b7 nu s.o w nu' s'.o w∧s'.y=s.y∧RS f D nu' s' a w
theorem iW {n0:Nat} {s s':AS} {c:Code} {Q:aZ->AS->Prop} (ht:vA s s') (hok:b6 c=true) (h:cF P n0 c s' Q):yc P n0 c s Q:=fun f m D nu a w hZr hn hm hs hmx R hO hR=>by
 obtain ⟨nu',h1,hy,h2⟩:=ht f D nu a w hs;exact ib hmx m hZr hn c hok s' a w D nu' f.Z Q R hO (by rw [hy];exact m.own hm hs.ro h1 h2.ro) h2 h hR
theorem aJ {n0 id:Nat} {s s':AS} {ops:Array Oper} {d:Bool} {Q:aZ->AS->Prop} (ht:vA s s') (hok:dP ops=true) (h:cF P n0 (.region id ops d) s' Q):cF P n0 (.region id ops d) s Q:=by
 have:=iW (P:=P) (n0:=n0) (c:= .region id ops d) (Q:=Q) ht hok h
 cases d
 ·exact .inr this
 ·exact .inr this
theorem ab.x5 {f:FuncId} {args args':List AV} {o:List (Option aa)} {r:AV} {K:AV->List (Option aa)->Prop} (h:ag P f args' r) (n:Nat) {p:Prop} (hz:fx o n args=some (p,args')) (hp:p) (hf:r.flat=true) (k:K r o):ab P f args o K:=by
 refine .inr (.inr ⟨h.2.1,fun D nu w vargs hro hra=> ?_⟩);obtain ⟨hl,hall⟩:=(iZ hro n).2 _ _ _ hz hp
 have hra':fX (zW D nu [] w) nu [] w args' vargs:=⟨by rw [<-hl];exact hra.len,fun i c x q1 q2=>by
  have hi:i<args.length:=by rw [hl];exact (Ra.1 q1).1
  exact (hall i _ c x (Rp hi) q1 (hra.at' i _ x (Rp hi) q2)).mono (.refl _ _ _) (fun b _ hb=>fun hlt=>⟨hlt,ba _ _,hb⟩)⟩
 refine (h.2.2 (fun _=>True) nu w vargs (.nil _ _ _ (fun _ _=>trivial) (hro.gl.nil (fun _ _ _=>trivial))) ⟨hra'.len,fun i c x q1 q2=>(hra'.at' i c x q1 q2).mono (.refl _ _ _) (fun _ _ _=>trivial)⟩).mono ?_;rintro e w' ⟨v,nu',o',r',rfl,hm,_,hx,rfl,rfl⟩;have hb:=fD hm;exact ⟨_,nu,o,_,rfl,aw hb,hro.below hb,hx.flat hf,k⟩
end
attribute [go_sem] List.zip_cons_cons List.zip_nil_left List.zip_nil_right
end
section
section
variable {P:Program} {ops:Array Oper}
def Fy (ops:Array Oper) (m i j:Nat):Bool:=
 match ops[i]?,ops[j]? with
 | some oi,some oj=>(decide (m<=j)||aE ops j i||oi.apart ops oj) && !aE ops i j&&(match oi.dst with|some d=>oj.dst !=some d|none=>true)&&(decide (m<=j)||match oj.dst with|some d=> !(oi.looksAt ops).contains d|none=>true)
 | _,_=>true
def gI (ops:Array Oper) (m:Nat):Bool:=
 Region.noSelect ops&&decide (m<ops.size)&&(List.range ops.size).all (fun j=>(List.range j).all (fun i=>Fy ops m i j)&&(!aE ops j j&&tX ops j)) &&
 (List.range ops.size).all (fun t=>decide (t<m)||(List.range t).all (fun i=>(List.range (t+1)).any (fun i'=>decide (i<i')&&aE ops i' i)))
def ld (st:Nat->(Act->World->Prop)->Act->World->Prop) (ops:Array Oper) (E:Act->World->Prop):Nat->Array Bool->Act->World->Prop
 | 0,listed,a,w=>Region.ready .any ops listed=[]∧E a w
 | fuel+1,listed,a,w=>(Region.ready .any ops listed=[]->E a w)∧ ∀i∈Region.ready .any ops listed,st i (ld st ops E fuel (listed.setIfInBounds i true)) a w
def mI (st:Nat->(Act->World->Prop)->Act->World->Prop) (E:Act->World->Prop):List Nat->Act->World->Prop
 | []=>E
 | i :: r=>st i (mI st E r)
structure GC (P:Program) (ops:Array Oper) (st:Nat->(Act->World->Prop)->Act->World->Prop):Prop where
 mono: ∀ {i:Nat} {K K':Act->World->Prop} {a:Act} {w:World},(∀a w,K a w->K' a w)->st i K a w->st i K' a w
 of: ∀ {i:Nat} {o:Oper} {S:Spec} {K:Act->World->Prop} {a:Act} {w:World},ops[i]? = some o->jO P ops S o a w->(∀v w2,S.p v w2->Below w.heap.size w w2->K (a.put o.dst v) w2)->st i K a w
theorem A0 {Q:Exit->Act->World->Prop}: ∀(fuel:Nat) (listed:Array Bool) (a:Act) (w:World),ld (wpOp P ops Q) ops (Q .normal) fuel listed a w->wpAny P .any ops Q fuel listed a w
 | 0,_,_,_,h=>h
 | fuel+1,_,_,_,h=>⟨h.1,fun i hi=>wpOp_mono (fun _ _=>A0 fuel _ _ _) (h.2 i hi)⟩
theorem A3 {Q:Exit->Act->World->Prop}: ∀l:List Nat,wpOps P ops Q l=mI (wpOp P ops Q) (Q .normal) l
 | []=>by funext a w;simp [wpOps,mI]
 | i :: l=>by funext a w;rw [wpOps_cons,A3 l];rfl
theorem IP (Q:Exit->Act->World->Prop):GC P ops (wpOp P ops Q):=⟨fun h k=>wpOp_mono h k,fun {i o S K a w} hi h next=>by
 unfold wpOp;simp only [hi]
 rcases h with ⟨h1,h2⟩|⟨h1,h2⟩
 ·rw [if_pos h1];refine .inl ?_;unfold Oper.wp;generalize (execOp a.eval o).run P w=r at h2
  cases r with
  | halt _ _=>exact h2.elim
  | ok n w'=>
   cases n<;>first|exact h2.elim|skip
   case value u=>exact next _ _ h2.1 h2.2
   case skip=>exact next _ _ h2.1 h2.2
   case enter f args=>
    refine Calls.mono h2 fun e w'' he=> ?_;obtain ⟨v,rfl,hv,hb⟩:=he
    exact next _ _ hv hb
 ·rw [if_neg (by rw [h1];decide)]
  exact next _ _ h2 (Below.refl _ _)⟩
def xK (P:Program) (ops:Array Oper) (Q:Exit->Act->World->Prop) (k:Nat):Act->World->Prop:=wpOps P ops Q (List.range' k (ops.size - k))
def kQ (P:Program) (ops:Array Oper) (L:List Spec) (w0:World) (T:Nat->Act->World->Prop):List Oper->Nat->((Nat->Value)->Act)->Prop
 | [],k,A=> ∀x w,Below w0.heap.size w0 w->(∀i,i<k->(at' L i).p (x i) w)->T k (A x) w
 | o :: l,k,A=>(∀x w,Below w0.heap.size w0 w->(∀i,aE ops k i=true->(at' L i).p (x i) w)->jO P ops (at' L k) o (A x) w)∧kQ P ops L w0 T l (k+1) (fun x=>(A x).put o.dst (x k))
def KR (b:Bool) (n:Nat) (S:Spec):Spec:=⟨fun v w=>S.p v w∧(b=true-> ∀k,dn v=some k->n<=k),fun v w w' hb h=>⟨S.st v w w' hb h.1,h.2⟩⟩
def mG (P:Program) (ops:Array Oper) (L:List Spec) (fr:Nat->Bool) (w0:World) (T:Nat->Act->World->Prop):List Oper->Nat->((Nat->Value)->Act)->Prop
 | [],k,A=> ∀x w,Below w0.heap.size w0 w->(∀i,i<k->(at' L i).p (x i) w)->(∀i j,i<k->j<k->i≠j->fr i=true->fr j=true-> ∀b,dn (x i)=some b->dn (x j)≠some b)->T k (A x) w
 | o :: l,k,A=>(∀x w,Below w0.heap.size w0 w->(∀i,aE ops k i=true->(at' L i).p (x i) w)->(∀i j,aE ops k i=true->aE ops k j=true->i≠j->fr i=true->fr j=true-> ∀b,dn (x i)=some b->dn (x j)≠some b)->jO P ops (KR (fr k) w.heap.size (at' L k)) o (A x) w)∧mG P ops L fr w0 T l (k+1) (fun x=>(A x).put o.dst (x k))
theorem jO.KR {S:Spec} {o:Oper} {a:Act} {w:World} {n:Nat} (h:jO P ops S o a w):jO P ops (KR false n S) o a w:=by
 rcases h with ⟨h1,h2⟩|⟨h1,h2⟩
 ·refine .inl ⟨h1, ?_⟩
  revert h2
  generalize (execOp a.eval o).run P w=r;intro h2
  cases r with
  | halt _ _=>exact h2.elim
  | ok n w'=>
   cases n<;>first|exact h2.elim|skip
   case value u=>exact ⟨⟨h2.1,fun h=>by cases h⟩,h2.2⟩
   case skip=>exact ⟨⟨h2.1,fun h=>by cases h⟩,h2.2⟩
   case enter f args=>
    refine Calls.mono h2 fun e w'' he=> ?_;obtain ⟨v,rfl,hv,hb⟩:=he;exact ⟨v,rfl,⟨hv,fun h=>by cases h⟩,hb⟩
 ·exact .inr ⟨h1,h2,fun h=>by cases h⟩
theorem jG {L:List Spec} {w0:World} {T:Nat->Act->World->Prop}: ∀(l:List Oper) (k:Nat) (A:(Nat->Value)->Act),kQ P ops L w0 T l k A->mG P ops L (fun _=>false) w0 T l k A
 | [],k,A,h=>fun x w h1 h2 _=>h x w h1 h2
 | o :: l,k,A,h=>⟨fun x w h1 h2 _=>(h.1 x w h1 h2).KR,jG l (k+1) _ h.2⟩
theorem ox {l:List Oper} {L:List Spec} {fr:Nat->Bool} {w0:World} {T:Nat->Act->World->Prop} {a0:Act} (hA:gx l) {m0:Nat} (hm:m0<=l.length): ∀(l':List Oper) (k:Nat) (A:(Nat->Value)->Act),(l.take m0).drop k=l'->k<=m0->(A=fun x=>cC (fun i=>decide (i<k)) x l 0 a0) ->
  mG P l.toArray L fr w0 T l' k A->(∀j o,k<=j->j<m0->l[j]? = some o-> ∀x w,Below w0.heap.size w0 w->(∀i,aE l.toArray j i=true->(at' L i).p (x i) w)->(∀i i',aE l.toArray j i=true->aE l.toArray j i'=true->i≠i'->fr i=true->fr i'=true-> ∀b,dn (x i)=some b->dn (x i')≠some b)->jO P l.toArray (KR (fr j) w.heap.size (at' L j)) o (cC (fun i=>decide (i<j)) x l 0 a0) w)∧ ∀x w,Below w0.heap.size w0 w->(∀i,i<m0->(at' L i).p (x i) w)->(∀i j,i<m0->j<m0->i≠j->fr i=true->fr j=true-> ∀b,dn (x i)=some b->dn (x j)≠some b)->T m0 (cC (fun i=>decide (i<m0)) x l 0 a0) w
 | [],k,A,hl,hk,hAx,h=>by
  have h1:k=m0:=by have:=congrArg List.length hl;simp at this;omega
  subst h1;subst hAx;refine ⟨fun j o h1 h2=>by omega,fun x w h1 h2 h3=> ?_⟩
  have:=h x w h1 h2 h3
  simpa using this
 | o :: l',k,A,hl,hk,hAx,h=>by
  have h1:k<m0:=by have:=congrArg List.length hl;simp at this;omega
  have h2:l[k]? = some o:=by
   have:=congrArg (fun m=>m[0]?) hl
   simp only [List.getElem?_drop,Nat.add_zero,Su] at this
   rwa [RE h1] at this
  subst hAx
  have hrec:=ox hA hm l' (k+1) _ (by have:=congrArg List.tail hl;simpa using this) h1 (by
   funext x
   have hi:=gd (s:=fun i=>decide (i<k)) (x:=x) (v:=x k) l 0 k a0 hA h2 (by simp);rw [Nat.zero_add] at hi;rw [<-hi];refine bu l 0 a0 (fun i _ _=> ?_)
   by_cases hik:i=k
   ·subst hik;simp [bN,fJ]
   ·have:(i<k+1)=(i<k):=by apply propext;omega
    simp [bN,fJ,hik,this]) h.2
  refine ⟨fun j o' hj hjm ho=> ?_,hrec.2⟩
  by_cases hjk:j=k
  ·subst hjk;rw [h2] at ho;cases ho;exact h.1
  ·exact hrec.1 j o' (by omega) hjm ho
theorem xO {s:Nat->Bool}: ∀n m,m<=n->(∀i,m<=i->i<n->s i=false)->n - m<=vo s n
 | 0,m,_,_=>by omega
 | n+1,m,h,hs=>by
  rcases Rc n m with q|q
  ·omega
  ·have:=xO (s:=s) n m q (fun i h1 h2=>hs i h1 (by omega))
   rw [vo,hs n q (by omega)];simp;omega
theorem Gc {l:List Oper} {m0:Nat} {st:Nat->(Act->World->Prop)->Act->World->Prop} {E:Act->World->Prop} (hst:GC P l.toArray st) (hnext: ∀t,m0<=t->t<l.length-> ∀i,i<t-> ∃i',i'<=t∧i<i'∧aE l.toArray i' i=true)
  (hback: ∀i j oi oj,i<j->l[i]? = some oi->l[j]? = some oj->aE l.toArray i j=false) (hself: ∀j,j<l.length->aE l.toArray j j=false) (hfar: ∀(j:Nat) (o:Oper),l[j]? = some o-> ∀e∈o.after,e.on<l.length) :
  ∀(fuel k:Nat) (listed:Array Bool) (a:Act) (w:World),listed.size=l.length->m0<=k->k<=l.length->(∀i,listed.getD i false=decide (i<k))->l.length - k<=fuel ->
   mI st E (List.range' k (l.length - k)) a w->ld st l.toArray E fuel listed a w:=by
 intro fuel
 induction fuel with
 | zero=>
  intro k listed a w hsz hm hk hl hf h
  have e:k=l.length:=by omega
  subst e;rw [Sm] at h;refine ⟨?_,by simpa [mI] using h⟩;refine List.eq_nil_iff_forall_not_mem.2 (fun i hi=> ?_);obtain ⟨g1,o,g2, -⟩:=mem_ready.1 hi;have hil:i<l.length:=(Ra.1 (show l[i]? = some o by simpa using g2)).1
  have his:i<listed.size:=by omega
  have g3:=hl i
  rw [show listed.getD i false=false by
   simp only [RZ,Ro his,Option.getD_some] at g1 ⊢; exact g1] at g3
  simp [hil] at g3
 | succ fuel ih=>
  intro k listed a w hsz hm hk hl hf h
  have hread: ∀j,j∈Region.ready .any l.toArray listed->j=k∧k<l.length:=by
   intro j hj;obtain ⟨g1,o,g2,g3⟩:=mem_ready.1 hj
   have hoj:l[j]? = some o:=by simpa using g2
   have hjl:j<l.length:=(Ra.1 hoj).1
   have his:j<listed.size:=by omega
   have g4:=hl j
   rw [show listed.getD j false=false by
    simp only [RZ,Ro his,Option.getD_some] at g1 ⊢; exact g1] at g4
   have hkj:k<=j:=by
    rcases Rc j k with q|q
    ·simp [q] at g4
    ·exact q
   rcases Nat.eq_or_lt_of_le hkj with e|hlt
   ·exact ⟨e.symm,by omega⟩
   ·exfalso
    have hd: ∀i,aE l.toArray j i=true->listed.getD i false=true:=by
     intro i hi;simp only [aE,g2,RY,beq_iff_eq,Sv] at hi;obtain ⟨e,he,hb,rfl⟩:=hi;exact g3 e he hb
    have hsome: ∀n i,i+n+1=j->k<=i->False:=by
     intro n
     induction n using Nat.strongRecOn with
     | _ n ihn=>
      intro i hi hki;obtain ⟨i',q1,q2,q3⟩:=hnext j (by omega) hjl i (by omega)
      by_cases hi':i'=j
      ·subst hi'
       have:=hd i q3
       rw [hl i] at this;simp at this;omega
      ·exact ihn (j - 1 - i') (by omega) i' (by omega) (by omega)
    exact hsome (j - k - 1) k (by omega) (Q5 _)
  refine ⟨fun h0=> ?_,fun j hj=> ?_⟩
  ·rcases Rc k l.length with q|q
   ·exfalso
    have hmem:k∈Region.ready .any l.toArray listed:=by
     refine mem_ready.2 ⟨?_,l[k],by simp [q],fun e he hb=> ?_⟩
     ·have hms:k<listed.size:=by omega
      have:=hl k
      simp [hms] at this ⊢; exact this
     ·have hd:aE l.toArray k e.on=true:=by
       have:l.toArray[k]? = some l[k]:=by simp [q]
       simp only [aE,this];simp only [Sv,RY,beq_iff_eq];exact ⟨e,he,hb,rfl⟩
      rcases Sw e.on k with h'|h'|h'
      ·rw [hl];simpa using h'
      ·rw [h',hself k q] at hd;cases hd
      ·by_cases hl':e.on<l.length
       ·have:=hback k e.on l[k] l[e.on] h' (by simp [q]) (by simp [hl'])
        rw [hd] at this;cases this
       ·exact absurd (hfar k l[k] (by simp [q]) e he) hl'
    rw [h0] at hmem;cases hmem
   ·have e:k=l.length:=by omega
    subst e;rw [Sm] at h;simpa [mI] using h
  ·obtain ⟨rfl,hlt⟩:=hread j hj
   have e:l.length - j=(l.length - (j+1))+1:=by omega
   rw [e,Sx] at h;simp only [mI] at h;refine hst.mono (fun a' w' h'=>ih (j+1) _ a' w' (by simpa using hsz) (by omega) hlt (fun i=> ?_) (by omega) h') h
   by_cases hij:i=j
   ·subst hij
    have:i<listed.size:=by omega
    simp [this]
   ·rw [show (listed.setIfInBounds j true).getD i false=listed.getD i false from getD_set_ne false (Ne.symm hij),hl i]
    have:(i<j+1)=(i<j):=by apply propext;omega
    simp [this]
theorem fN {st:Nat->(Act->World->Prop)->Act->World->Prop} {E:Act->World->Prop} {a:Act} {w:World} {l:List Oper} (L:List Spec) (fr:Nat->Bool) (hfr: ∀i v w,fr i=true->(at' L i).p v w-> ∀b,dn v=some b->b<w.heap.size) (m0:Nat) (hst:GC P l.toArray st) (hB:gI l.toArray m0=true)
  (h:mG P l.toArray L fr w.drew (fun k=>mI st E (List.range' k (l.length - k))) (l.take m0) 0 (fun _=>a)):ld st l.toArray E l.toArray.size (Array.replicate l.toArray.size false) a w.drew:=by
 simp only [gI,RY,Sg,Sh,Rz,decide_eq_true_eq] at hB;obtain ⟨⟨⟨hns,hm0⟩,hall⟩,htail⟩:=hB;have hsel:=Region.noSelect_spec hns
 have hpair: ∀i j oi oj,i<j->l[i]? = some oi->l[j]? = some oj->(j<m0->aE l.toArray j i=true∨oi.apart l.toArray oj=true)∧aE l.toArray i j=false∧(∀e,oi.dst=some e->oj.dst≠some e)∧(j<m0-> ∀e,oj.dst=some e->e∉oi.looksAt l.toArray):=by
  intro i j oi oj hij hi hj;have hjn:=(Ra.1 hj).1
  have:=(hall j hjn).1 i hij
  simp only [Fy,Rr,hi,hj,RY,Si,Bool.not_eq_true',decide_eq_true_eq] at this
  refine ⟨fun hlt=> ?_,this.1.1.2,fun e he=> ?_,fun hlt e he=> ?_⟩
  ·rcases this.1.1.1 with (h|h)|h
   ·omega
   ·exact .inl h
   ·exact .inr h
  ·have h3:=this.1.2;rw [he] at h3;simpa using h3
  ·have h3:=this.2;rw [he] at h3
   rcases h3 with h3|h3
   ·omega
   ·simpa using h3
 have hself: ∀j,j<l.length->aE l.toArray j j=false:=fun j hj=>by simpa using (hall j hj).2.1
 have hfar: ∀(j:Nat) (o:Oper),l[j]? = some o-> ∀e∈o.after,e.on<l.length:=fun j o hj e he=>by
  have:=(hall j (Ra.1 hj).1).2.2
  simp only [tX,Rr,hj,Sy] at this;simpa using this e he
 have hnext: ∀t,m0<=t->t<l.length-> ∀i,i<t-> ∃i',i'<=t∧i<i'∧aE l.toArray i' i=true:=fun t ht htl i hit=>by
  have:=htail t htl
  simp only [Si,decide_eq_true_eq,Sg,List.any_eq_true,Sh,RY] at this
  rcases this with h|h
  ·omega
  ·obtain ⟨i',h1,h2,h3⟩:=h i hit;exact ⟨i',by omega,h2,h3⟩
 have hA:gx l:=fun i j oi oj hi hj hij e he=>by
  rcases Nat.lt_or_gt_of_ne hij with h|h
  ·exact (hpair i j oi oj h hi hj).2.2.1 e he
  ·intro h2;exact (hpair j i oj oi h hj hi).2.2.1 e h2 he
 have hO:=ox (P:=P) (L:=L) (fr:=fr) (w0:=w.drew) (T:=fun k=>mI st E (List.range' k (l.length - k))) (a0:=a) hA (m0:=m0) (by omega) (l.take m0) 0 (fun _=>a) (by simp) (Rh _) (by
  funext x
  exact (show a=cC (fun _=>false) x l 0 a from by
   have: ∀(l:List Oper) k,a=cC (fun _=>false) x l k a:=by
    intro l
    induction l with
    | nil=>intro k;rfl
    | cons o l ih=>intro k;rw [cC];exact ih (k+1)
   exact this l 0).trans (bu l 0 a (fun i _ _=>by simp))) h
 
 have hloose: ∀i j oi oj,i<m0->j<m0->l[i]? = some oi->l[j]? = some oj->i≠j->aE l.toArray j i=false-> ∀d,oi.dst=some d->d∉oj.looksAt l.toArray:=by
  intro i j oi oj him hjm hi hj hij hd
  rcases Nat.lt_or_gt_of_ne hij with h|h
  ·rcases (hpair i j oi oj h hi hj).1 hjm with h1|h1
   ·rw [hd] at h1;cases h1
   ·exact (Oper.apart_spec h1).1
  ·exact (hpair j i oj oi h hj hi).2.2.2 him
 
 have hsee: ∀(s s':Nat->Bool) x j oj,(∀i,m0<=i->s i=false∧s' i=false)->j<m0->l[j]? = some oj->s j=false->s' j=false->(∀i,i<l.length->aE l.toArray j i=true->s i=true∧s' i=true) ->
   execOp (cC s x l 0 a).eval oj=execOp (cC s' x l 0 a).eval oj∧Region.wanted oj (yielded l.toArray (cC s x l 0 a).tmps)=Region.wanted oj (yielded l.toArray (cC s' x l 0 a).tmps):=by
  intro s s' x j oj hst hjm hj h1 h2 hd
  have one:=fun (s:Nat->Bool) (hs0: ∀i,m0<=i->s i=false) (hs:s j=false)=>kS (ops:=l.toArray) (s:=s) (keep:=aE l.toArray j) (x:=x) (a:=a) hA (fun cs b=>hsel j oj cs b (by simpa using hj))
   (fun i oi hi hsi hk=>hloose i j oi oj (by rcases Rc i m0 with q|q;exact q;rw [hs0 i q] at hsi;cases hsi) hjm hi hj (by intro e;subst e;rw [hsi] at hs;cases hs) hk)
  obtain ⟨a1,a2⟩:=one s (fun i hi=>(hst i hi).1) h1;obtain ⟨b1,b2⟩:=one s' (fun i hi=>(hst i hi).2) h2
  have e:cC (fun i=>s i&&aE l.toArray j i) x l 0 a=cC (fun i=>s' i&&aE l.toArray j i) x l 0 a:=bu l 0 a (fun i _ hi=>by
   refine ⟨?_,fun _=>rfl⟩
   cases hk:aE l.toArray j i
   ·simp
   ·obtain ⟨c1,c2⟩:=hd i (by omega) hk
    simp [c1,c2])
  exact ⟨by rw [a1,b1,e],by rw [a2,b2,e]⟩
 have main: ∀fuel (listed:Array Bool) x w1,listed.size=l.length->Below w.drew.heap.size w.drew w1->(∀i,listed.getD i false=true->(at' L i).p (x i) w1) ->
   (∀j i,listed.getD j false=true->aE l.toArray j i=true->listed.getD i false=true)->(∀i,m0<=i->listed.getD i false=false)->(∀i j,listed.getD i false=true->listed.getD j false=true->i≠j->fr i=true->fr j=true-> ∀b,dn (x i)=some b->dn (x j)≠some b)->vo (fun i=>listed.getD i false) l.length<=fuel ->
   ld st l.toArray E fuel listed (cC (fun i=>listed.getD i false) x l 0 a) w1:=by
  intro fuel
  induction fuel with
  | zero=>
   intro listed x w1 _ _ _ _ hlast _ hu
   have:=oZ (s:=fun i=>listed.getD i false) l.length (i:=m0) hm0 (hlast m0 (Q5 _))
   omega
  | succ fuel ih=>
   intro listed x w1 hsz hE hF hcl hlast hpr hu
   have hmemR: ∀j,j∈Region.ready .any l.toArray listed-> ∃oj,l[j]? = some oj∧listed.getD j false=false∧ ∀i,aE l.toArray j i=true->listed.getD i false=true:=by
    intro j hj;obtain ⟨h1,o,ho,h3⟩:=mem_ready.1 hj
    refine ⟨o,by simpa using ho, ?_,fun i hi=> ?_⟩
    ·rcases Rc j listed.size with h'|h'
     ·simp [h'] at h1 ⊢; exact h1
     ·simp [Array.getElem?_eq_none h']
    ·simp only [aE,ho,RY,beq_iff_eq,Sv] at hi;obtain ⟨e,he,hb,rfl⟩:=hi;exact h3 e he hb
   refine ⟨fun h0=> ?_,fun j hj=> ?_⟩
   ·
    exfalso
    have hex: ∃m,m<l.length∧listed.getD m false=false∧ ∀i,i<m->listed.getD i false=true:=by
     have: ∀k,k<=l.length->(∀i,i<k->listed.getD i false=true)∨ ∃m,m<l.length∧listed.getD m false=false∧ ∀i,i<m->listed.getD i false=true:=by
      intro k
      induction k with
      | zero=>exact fun _=> .inl (fun i hi=>by omega)
      | succ k ihk=>
       intro hk
       rcases ihk (by omega) with h|h
       ·cases hc:listed.getD k false
        ·exact .inr ⟨k,by omega,hc,h⟩
        ·exact .inl (fun i hi=>by
          by_cases e:i=k
          ·subst e;exact hc
          ·exact h i (by omega))
       ·exact .inr h
     rcases this l.length (Q5 _) with h|h
     ·have:=h m0 hm0
      rw [hlast m0 (Q5 _)] at this;cases this
     ·exact h
    obtain ⟨m,hm1,hm2,hm3⟩:=hex
    have hmem:m∈Region.ready .any l.toArray listed:=by
     refine mem_ready.2 ⟨?_,l[m],by simp [hm1],fun e he hb=> ?_⟩
     ·have hms:m<listed.size:=by omega
      simp [hms] at hm2 ⊢; exact hm2
     ·have hd:aE l.toArray m e.on=true:=by
       have:l.toArray[m]? = some l[m]:=by simp [hm1]
       simp only [aE,this];simp only [Sv,RY,beq_iff_eq];exact ⟨e,he,hb,rfl⟩
      rcases Sw e.on m with h|h|h
      ·exact hm3 _ h
      ·rw [h,hself m hm1] at hd;cases hd
      ·by_cases hl:e.on<l.length
       ·have:=(hpair m e.on l[m] l[e.on] h (by simp [hm1]) (by simp [hl])).2.1
        rw [hd] at this;cases this
       ·exact absurd (hfar m l[m] (by simp [hm1]) e he) hl
    rw [h0] at hmem;cases hmem
   ·obtain ⟨oj,hoj,hun,hdeps⟩:=hmemR j hj;have hjl:=(Ra.1 hoj).1
    have hsj:(listed.setIfInBounds j true).size=l.length:=by simpa using hsz
    have hgd: ∀i,(listed.setIfInBounds j true).getD i false=bN (fun i=>listed.getD i false) j i:=by
     intro i
     by_cases hij:i=j
     ·subst hij
      have:i<listed.size:=by omega
      simp [bN,this]
     ·simp only [bN,if_neg hij];exact getD_set_ne false (Ne.symm hij)
    have hup: ∀t,m0<=t->t<l.length->(∀i,aE l.toArray t i=true->listed.getD i false=true)-> ∀k i,i+k+1=t->listed.getD i false=true:=by
     intro t h1 h2 hdt k
     induction k using Nat.strongRecOn with
     | _ k ihk=>
      intro i hi;obtain ⟨i',q1,q2,q3⟩:=hnext t h1 h2 i (by omega)
      by_cases hi':i'=t
      ·subst hi';exact hdt i q3
      ·exact hcl i' i (ihk (t - 1 - i') (by omega) i' (by omega)) q3
    by_cases hjn:m0<=j
    ·
     have hj0:j=m0:=by
      rcases Nat.eq_or_lt_of_le hjn with e|hlt
      ·exact e.symm
      ·have:=hup j hjn hjl hdeps (j - m0 - 1) m0 (by omega)
       rw [hlast m0 (Q5 _)] at this;cases this
     subst hj0;have hall': ∀i,i<j->listed.getD i false=true:=fun i hi=>hup j hjn hjl hdeps (j - i - 1) i (by omega);have h2:=hO.2 x w1 hE (fun i hi=>hF i (hall' i hi)) (fun i k hi hk=>hpr i k (hall' i hi) (hall' k hk))
     have e:cC (fun i=>decide (i<j)) x l 0 a=cC (fun i=>listed.getD i false) x l 0 a:=bu l 0 a (fun i _ hi=>by
      refine ⟨?_,fun _=>rfl⟩
      by_cases hij:i<j
      ·simp only [hij,decide_true];exact (hall' i hij).symm
      ·simp only [hij,decide_false];exact (hlast i (by omega)).symm)
     rw [e] at h2
     have hrun:=Gc (P:=P) (st:=st) (E:=E) (l:=l) (m0:=j) hst (fun t h1 h2=>hnext t h1 h2) (fun i k oi ok hik h1 h2=>(hpair i k oi ok hik h1 h2).2.1) hself hfar (fuel+1) j listed _ w1 hsz (Q5 _) (Sz hjl) (fun i=>by
      by_cases hij:i<j
      ·simp only [hij,decide_true];exact hall' i hij
      ·simp only [hij,decide_false];exact hlast i (by omega)) (by
      have:=xO (s:=fun i=>listed.getD i false) l.length j (Sz hjl) (fun i h1 _=>hlast i h1)
      omega) h2
     exact hrun.2 j hj
    ·have hjm:j<m0:=by omega
     have hst2:=hO.1 j oj (Rh _) hjm hoj x w1 hE (fun i hi=>hF i (hdeps i hi)) (fun i k hi hk=>hpr i k (hdeps i hi) (hdeps k hk))
     obtain ⟨c1,c2⟩:=hsee (fun i=>listed.getD i false) (fun i=>decide (i<j)) x j oj (fun i hi=>⟨hlast i hi,by simp;omega⟩) hjm hoj hun (by simp) (fun i hi hd=>⟨hdeps i hd,by
      rcases Sw i j with h|h|h
      ·simpa using h
      ·rw [h,hself j hjl] at hd;cases hd
      ·have:=(hpair j i oj l[i] h hoj (by simp [hi])).2.1
       rw [hd] at this;cases this⟩)
     have next: ∀v w2,(KR (fr j) w1.heap.size (at' L j)).p v w2->Below w1.heap.size w1 w2->ld st l.toArray E fuel (listed.setIfInBounds j true) ((cC (fun i=>listed.getD i false) x l 0 a).put oj.dst v) w2:=by
      intro v w2 hvf hb;obtain ⟨hv,hvn⟩:=hvf;have hi:=gd (s:=fun i=>listed.getD i false) (x:=x) (v:=v) l 0 j a hA hoj (by simpa using hun);rw [Nat.zero_add] at hi;rw [<-hi, <- show (fun i=>(listed.setIfInBounds j true).getD i false)=bN (fun i=>listed.getD i false) j from funext hgd]
      refine ih _ _ w2 hsj (Ef hE hb) (fun i hi'=> ?_) (fun j' i hj' hd=> ?_) ?_ ?_ ?_
      ·rw [hgd] at hi'
       by_cases hij:i=j
       ·subst hij;simpa [fJ] using hv
       ·simp only [bN,if_neg hij] at hi';simp only [fJ,if_neg hij];exact (at' L i).st _ _ _ hb (hF i hi')
      ·rw [hgd] at hj' ⊢
       by_cases hij:i=j
       ·simp [bN,hij]
       ·simp only [bN,if_neg hij]
        by_cases hj2:j'=j
        ·subst hj2;exact hdeps i hd
        ·simp only [bN,if_neg hj2] at hj';exact hcl j' i hj' hd
      ·intro i hi;rw [hgd]
       have:i≠j:=by omega
       simp only [bN,if_neg this];exact hlast i hi
      ·intro i k hi hk hik fi fk b hbi hbk;rw [hgd] at hi hk
       have old: ∀i,bN (fun i=>listed.getD i false) j i=true->i≠j->listed.getD i false=true:=fun i h1 h2=>by simpa only [bN,if_neg h2] using h1
       by_cases hij:i=j
       ·subst hij;have hkj:k≠i:=fun e=>hik e.symm;simp only [fJ,if_true,if_neg hkj] at hbi hbk
        have:=hfr k _ w1 fk (hF k (old k hk hkj)) b hbk
        have:=hvn fi b hbi
        omega
       ·by_cases hkj:k=j
        ·subst hkj;simp only [fJ,if_true,if_neg hij] at hbi hbk
         have:=hfr i _ w1 fi (hF i (old i hi hij)) b hbi
         have:=hvn fk b hbk
         omega
        ·simp only [fJ,if_neg hij,if_neg hkj] at hbi hbk;exact hpr i k (old i hi hij) (old k hk hkj) hik fi fk b hbi hbk
      ·rw [gW (s':=bN (fun i=>listed.getD i false) j) l.length (fun i _=>hgd i)]
       have:=kW (s:=fun i=>listed.getD i false) (i:=j) l.length hjl hun
       omega
     unfold jO at hst2;rw [<-c1, <- c2] at hst2
     exact hst.of (by simpa using hoj) hst2 next
 have hrep: ∀i,(Array.replicate l.toArray.size false).getD i false=false:=fun i=>by
  simp only [RZ,Array.getElem?_replicate];split<;>rfl
 have h0:=main l.toArray.size (Array.replicate l.toArray.size false) (fun _=>undef) w.drew (by simp) (Below.refl _ _)
  (fun i hi=>by rw [hrep] at hi;cases hi) (fun j i hj=>by rw [hrep] at hj;cases hj) (fun i _=>hrep i) (fun i j hi=>by rw [hrep] at hi;cases hi) (qY _)
 have e:cC (fun i=>(Array.replicate l.toArray.size false).getD i false) (fun _=>undef) l 0 a=a:=by
  have: ∀(l':List Oper) k,cC (fun i=>(Array.replicate l.toArray.size false).getD i false) (fun _=>undef) l' k a=a:=by
   intro l'
   induction l' with
   | nil=>intro k;rfl
   | cons o l' ih=>intro k;rw [cC,hrep];exact ih (k+1)
  exact this l 0
 rw [e] at h0;exact h0
theorem IW (Q:Exit->Act->World->Prop) (l:List Oper):xK P l.toArray Q=fun k=>mI (wpOp P l.toArray Q) (Q .normal) (List.range' k (l.length - k)):=by
 funext k;rw [xK,A3];simp only [Rz]
theorem ng {Q:Exit->Act->World->Prop} {a:Act} {w:World} {l:List Oper} (L:List Spec) (fr:Nat->Bool) (hfr: ∀i v w,fr i=true->(at' L i).p v w-> ∀b,dn v=some b->b<w.heap.size) (m0:Nat) (hB:gI l.toArray m0=true)
  (h:mG P l.toArray L fr w.drew (xK P l.toArray Q) (l.take m0) 0 (fun _=>a)):wpAny P .any l.toArray Q l.toArray.size (Array.replicate l.toArray.size false) a w.drew:=
 A0 _ _ _ _ (fN L fr hfr m0 (IP Q) hB (by rw [<-IW];exact h))
theorem oE {Q:Exit->Act->World->Prop} {a:Act} {w:World} {l:List Oper} (L:List Spec) (m0:Nat) (hB:gI l.toArray m0=true)
  (h:kQ P l.toArray L w.drew (xK P l.toArray Q) (l.take m0) 0 (fun _=>a)):wpAny P .any l.toArray Q l.toArray.size (Array.replicate l.toArray.size false) a w.drew:=
 ng L (fun _=>false) (fun i v w h=>by cases h) m0 hB (jG _ _ _ h)
end
end
section
section
variable {D:Nat->Prop} {nu:Nat->Nat->Value} {o:List (Option aa)} {w:World} {P:Program}
def mU (P:Program) (all:List Oper) (oo:Oper) (s:AS) (K:AS->Prop):Prop:=match oo.guard with
 | none=>vq P oo.op s (fun r o'=>K (s.put oo.dst r o'))
 | some (j,want)=>ri (iw all s j) want (vq P oo.op s (fun r o'=>K (s.put oo.dst r o'))) (K (s.put oo.dst (.v Go.undef) s.o))
def fe (P:Program) (all:List Oper):List Oper->AS->(AS->Prop)->Prop
 | [],s,Q=>Q s
 | oo :: rest,s,Q=>mU P all oo s (fun s'=>fe P all rest s' Q)
def dI (P:Program) (all:List Oper) (B:AS->Prop):List Oper->AS->Prop
 | [],s=>B s
 | oo :: rest,s=>match oo.guard with
  | none=>dr P oo.op s (fun r=>dI P all B rest (s.put oo.dst r s.o))
  | some (j,want)=>ri (iw all s j) want (dr P oo.op s (fun r=>dI P all B rest (s.put oo.dst r s.o))) (dI P all B rest (s.put oo.dst (.v Go.undef) s.o))
abbrev mT (P:Program) (all tail:List Oper) (l:List Oper) (s:AS) (Q:AS->Prop):Prop:=dI P all (fun s=>fe P all tail s Q) l s
theorem lF {f:Fr} {l:List Oper} {R:Exit->Act->World->Prop}: ∀(tail:List Oper) (k:Nat) (s:AS) (a:Act) (w:World) (nu:Nat->Nat->Value),l.drop k=tail->k<=l.length->RS f D nu s a w-> ∀ {Q:AS->Prop},fe P l tail s Q ->
  (∀s' a' w' nu',b7 nu s.o w nu' s'.o w'->s'.y=s.y->RS f D nu' s' a' w'->Q s'->R .normal a' w')->wpOps P l.toArray R (List.range' k (l.length - k)) a w
 | [],k,s,a,w,nu,hl,hk,hs,Q,h,hR=>by
  have e:k=l.length:=by have:=congrArg List.length hl;simp at this;omega
  subst e;rw [Sm];simpa [wpOps] using hR s a w nu (.refl _ _ _) rfl hs h
 | oo :: rest,k,s,a,w,nu,hl,hk,hs,Q,h,hR=>by
  have hlt:k<l.length:=by have:=congrArg List.length hl;simp at this;omega
  have hok:l[k]? = some oo:=by have:=congrArg (fun m=>m[0]?) hl;simpa using this
  have hl':l.drop (k+1)=rest:=by have:=congrArg List.tail hl;simpa using this
  have e:l.length - k=(l.length - (k+1))+1:=by omega
  rw [e,Sx,wpOps_cons];unfold wpOp;simp only [Rr,hok]
  have hdo:vq P oo.op s (fun r o'=>fe P l rest (s.put oo.dst r o') Q)->Region.wanted oo (yielded l.toArray a.tmps)=true->(if Region.wanted oo (yielded l.toArray a.tmps)=true then oo.wp P a w (wpOps P l.toArray R (List.range' (k+1) (l.length - (k+1)))) R∨oo.asks P a w∧LetsOut R else wpOps P l.toArray R (List.range' (k+1) (l.length - (k+1))) (a.put oo.dst Go.undef) w):=by
   intro hd hw;rw [if_pos hw];exact .inl (pk (P:=P) hs.ro (fun y _=>hs.ev y) hd (fun v w' nu' r o' m1 m2 m3 m4=>lF rest (k+1) (s.put oo.dst r o') _ w' nu' hl' hlt (hs.put m1 m2 m3 oo.dst) m4 (fun s' a' w2 nu2 q1 q2 q3 q4=>hR s' a' w2 nu2 (by simpa only [AS.put] using m1.trans q1) (q2.trans rfl) q3 q4)))
  have hskip:fe P l rest (s.put oo.dst (.v Go.undef) s.o) Q->Region.wanted oo (yielded l.toArray a.tmps)=false->(if Region.wanted oo (yielded l.toArray a.tmps)=true then oo.wp P a w (wpOps P l.toArray R (List.range' (k+1) (l.length - (k+1)))) R∨oo.asks P a w∧LetsOut R else wpOps P l.toArray R (List.range' (k+1) (l.length - (k+1))) (a.put oo.dst Go.undef) w):=by
   intro hd hw;rw [if_neg (by rw [hw];decide)];exact lF rest (k+1) (s.put oo.dst (.v Go.undef) s.o) _ w nu hl' hlt (hs.put (.refl _ _ _) hs.ro (.v _) oo.dst) hd (fun s' a' w2 nu2 q1 q2 q3 q4=>hR s' a' w2 nu2 (by simpa only [AS.put] using q1) (q2.trans rfl) q3 q4)
  simp only [fe,mU] at h
  split at h
  ·rename_i hg;exact hdo h (by simp [Region.wanted,hg])
  ·rename_i j want hg;have hyv: ∀g,iw l s j=some g->yielded l.toArray a.tmps j=g:=fun g hgv=>fS (D:=D) (nu:=nu) (w:=w) (fun d c v hd h1 h2=>hs.tm.at' d c v h1 h2) hs.tm.len hgv;unfold ri at h
   split at h
   ·rename_i b e
    cases hb:b==want
    ·rw [hb] at h;exact hskip h (by simp only [Region.wanted,hg,hyv _ e];simpa using hb)
    ·rw [hb] at h;exact hdo h (by simp only [Region.wanted,hg,hyv _ e];simpa using hb)
   ·rename_i e;exact hskip h (by simp only [Region.wanted,hg,hyv _ e];rfl)
   ·exact h.elim
theorem zy {l:List Oper} {m0:Nat} (hB:gI l.toArray m0=true) {i j:Nat} {oi oj:Oper} (hij:i<j) (hi:l[i]? = some oi) (hj:l[j]? = some oj) (hjm:j<m0):aE l.toArray j i=true∨ ∀d,oi.dst=some d->d∉oj.looksAt l.toArray:=by
 simp only [gI,RY,Sg,Sh,Rz] at hB;have hjn:=(Ra.1 hj).1
 have:=(hB.1.2 j hjn).1 i hij
 simp only [Fy,Rr,hi,hj,RY,Si,Bool.not_eq_true',decide_eq_true_eq] at this
 rcases this.1.1.1 with (h|h)|h
 ·omega
 ·exact .inl h
 ·exact .inr (Oper.apart_spec h).1
theorem gm {f:Fr} {l:List Oper} {m0:Nat} (hm0:m0<=l.length) (hB:gI l.toArray m0=true) {s:AS} {a:Act} {w0:World} {B:AS->Prop} {T:Nat->Act->World->Prop} (hs:RS f D nu s a w0)
  (hT: ∀sk a' wr,Below w0.heap.size w0 wr->sk.o=s.o->sk.y=s.y->RS f D nu sk a' wr->B sk->T m0 a' wr) :
  ∀(rest:List Oper) (k:Nat) (sk:AS) (rs:List AV) (A:(Nat->Value)->Act),(l.take m0).drop k=rest->k<=m0->Bc l s a k sk rs A->dI P l B rest sk-> ∃rs',kQ P l.toArray ((rs++rs').map (cQ D nu s.o)) w0 T rest k A
 | [],k,sk,rs,A,hl,hk,hI,h=>by
  have hkm:k=m0:=by have:=congrArg List.length hl;simp at this;omega
  subst hkm;refine ⟨[],fun x wr hE hD=> ?_⟩;have hro:RO D nu s.o wr:=hs.ro.below hE
  have hsk:RS f D nu sk (A x) wr:=by
   refine ⟨by rw [hI.o];exact hro,⟨hI.size x,fun t c v h1 h2=> ?_⟩,by rw [hI.gG x];exact hs.gG.mono hs.ro (aw hE)⟩;rw [hI.o]
   rcases hI.val x t c v h1 h2 with ⟨h3,h4⟩|⟨i,q1,q2,q3,q4⟩
   ·exact (hs.tm.at' t c v h3 h4).mono (aw hE) (fun _ _ h=>h)
   ·have:=hD i q1
    rw [iy q3] at this;rw [q4];exact this.2
  exact hT sk (A x) wr hE hI.o hI.y hsk h
 | oo :: rest,k,sk,rs,A,hl,hk,hI,h=>by
  have hkm:k<m0:=by have:=congrArg List.length hl;simp at this;omega
  have hok:l[k]? = some oo:=by
   have:=congrArg (fun m=>m[0]?) hl
   simp only [List.getElem?_drop,Nat.add_zero,Su] at this
   rwa [RE hkm] at this
  have hl':(l.take m0).drop (k+1)=rest:=by have:=congrArg List.tail hl;simpa using this
  
  have hlook: ∀x wr,Below w0.heap.size w0 wr->(∀rs' i,aE l.toArray k i=true->i<k->(at' ((rs++rs').map (cQ D nu s.o)) i).p (x i) wr)-> ∀(t:Nat) c v,t∈oo.looksAt l.toArray->sk.t[t]? = some c->(A x).tmps[t]? = some v->RA D nu s.o wr c v:=by
   intro x wr hE hD t c v ht h1 h2
   rcases hI.val x t c v h1 h2 with ⟨h3,h4⟩|⟨i,q1,⟨oi,q2,q5⟩,q3,q4⟩
   ·exact (hs.tm.at' t c v h3 h4).mono (aw hE) (fun _ _ h=>h)
   ·rcases zy hB q1 q2 hok hkm with h5|h5
    ·have:=hD [] i h5 q1
     rw [iy q3] at this;rw [q4];exact this.2
    ·exact absurd ht (h5 t q5)
  have hevs: ∀x wr,Below w0.heap.size w0 wr->(∀rs' i,aE l.toArray k i=true->i<k->(at' ((rs++rs').map (cQ D nu s.o)) i).p (x i) wr)->DF D nu s.o wr sk.ev (A x).eval oo.op:=by
   intro x wr hE hD y hy
   cases y with
   | tmp t=>
    simp only [AS.ev,Act.eval]
    rcases Rc t sk.t.length with hlt|hge
    ·have e1:sk.t[t]? = some sk.t[t]:=Rp hlt
     have hlt':t<(A x).tmps.size:=by rw [<-hI.size x];exact hlt
     have hx:(A x).tmps[t]? = some (A x).tmps[t]:=Ro hlt';rw [getD_some e1]
     have:(A x).tmps.getD t Go.undef=(A x).tmps[t]:=by simp [Array.getD,hlt']
     rw [this];exact hlook x wr hE hD t _ _ (List.mem_append_left _ (List.mem_filterMap.2 ⟨.tmp t,hy,rfl⟩)) e1 hx
    ·rw [List.getD_eq_getElem?_getD,List.getElem?_eq_none hge];exact .undef _
   | const v=>exact .v v
   | global gi=>exact (ml hs.ro sk gi).mono (aw hE) (fun _ _ h=>h)
   | func f=>exact .fn f [] [] #[] #[] rfl rfl (fun i c x h=>by simp at h) (fun i c x h=>by simp at h)
  
  have hdo:dr P oo.op sk (fun r=>dI P l B rest (sk.put oo.dst r sk.o))->(∀x wr,Below w0.heap.size w0 wr->(∀rs' i,aE l.toArray k i=true->i<k->(at' ((rs++rs').map (cQ D nu s.o)) i).p (x i) wr)->Region.wanted oo (yielded l.toArray (A x).tmps)=true) ->
    ∃rs',kQ P l.toArray ((rs++rs').map (cQ D nu s.o)) w0 T (oo :: rest) k A:=by
   intro hd hw;obtain ⟨r,hk',hr⟩:=ix hd;rw [hI.o] at hk';obtain ⟨rs',hrel⟩:=gm hm0 hB hs hT rest (k+1) _ (rs++[r]) _ hl' hkm (hI.step hok r) hk';rw [List.append_assoc,Sc] at hrel;refine ⟨r :: rs',⟨(fun x wr hE hD=> ?_),hrel⟩⟩
   have hD': ∀rs'' i,aE l.toArray k i=true->i<k->(at' ((rs++rs'').map (cQ D nu s.o)) i).p (x i) wr:=fun rs'' i h1 h2=>by
    have h3:=hD i h1
    have h5:i<rs.length:=by rw [hI.len];exact h2
    have h4:rs[i]? = some rs[i]:=Rp h5;rw [iy h4] at h3 ⊢;exact h3
   obtain ⟨r',rfl,hout⟩:=kH (P:=P) (nu:=nu) (D:=D) (w:=wr) (rho:=(A x).eval) (by rw [hI.o];exact hs.ro.below hE) (by rw [hI.o];exact hevs x wr hE hD') hr;have e:=iz (D:=D) (nu:=nu) (o:=s.o) (rs:=rs) (rs':=rs') (r:=r');rw [hI.len] at e;refine .inl ⟨hw x wr hE hD', ?_⟩;rw [e];rw [hI.o] at hout;exact hout
  simp only [dI] at h
  split at h
  ·rename_i hg;exact hdo h (fun x wr hE hD=>by simp [Region.wanted,hg])
  ·rename_i j want hg
   have hyv: ∀g,iw l sk j=some g-> ∀x wr,Below w0.heap.size w0 wr->(∀rs' i,aE l.toArray k i=true->i<k->(at' ((rs++rs').map (cQ D nu s.o)) i).p (x i) wr)->yielded l.toArray (A x).tmps j=g:=fun g hgv x wr hE hD=>
    fS (D:=D) (nu:=nu) (w:=wr) (fun d c v hd h1 h2=>by
     rw [hI.o];refine hlook x wr hE hD d c v ?_ h1 h2;obtain ⟨og,q1,q2⟩:=hd;refine List.mem_append_right _ ?_;simp only [hg,Rr,q1,Option.bind_some,q2]
     simp) (hI.size x) hgv
   have hskip:dI P l B rest (sk.put oo.dst (.v Go.undef) sk.o)->(∀x wr,Below w0.heap.size w0 wr->(∀rs' i,aE l.toArray k i=true->i<k->(at' ((rs++rs').map (cQ D nu s.o)) i).p (x i) wr)->Region.wanted oo (yielded l.toArray (A x).tmps)=false) ->
     ∃rs',kQ P l.toArray ((rs++rs').map (cQ D nu s.o)) w0 T (oo :: rest) k A:=by
    intro hk' hw;rw [hI.o] at hk';obtain ⟨rs',hrel⟩:=gm hm0 hB hs hT rest (k+1) _ (rs++[.v Go.undef]) _ hl' hkm (hI.step hok (.v Go.undef)) hk';rw [List.append_assoc,Sc] at hrel;refine ⟨.v Go.undef :: rs',⟨(fun x wr hE hD=> ?_),hrel⟩⟩
    have hD': ∀rs'' i,aE l.toArray k i=true->i<k->(at' ((rs++rs'').map (cQ D nu s.o)) i).p (x i) wr:=fun rs'' i h1 h2=>by
     have h3:=hD i h1
     have h5:i<rs.length:=by rw [hI.len];exact h2
     have h4:rs[i]? = some rs[i]:=Rp h5;rw [iy h4] at h3 ⊢;exact h3
    have e:=iz (D:=D) (nu:=nu) (o:=s.o) (rs:=rs) (rs':=rs') (r:= .v Go.undef);rw [hI.len] at e;refine .inr ⟨hw x wr hE hD', ?_⟩;rw [e];exact ⟨hs.ro.below hE, .v _⟩
   unfold ri at h
   split at h
   ·rename_i b e
    cases hb:b==want
    ·rw [hb] at h;exact hskip h (fun x wr hE hD=>by simp only [Region.wanted,hg,hyv _ e x wr hE hD];simpa using hb)
    ·rw [hb] at h;exact hdo h (fun x wr hE hD=>by simp only [Region.wanted,hg,hyv _ e x wr hE hD];simpa using hb)
   ·rename_i e;exact hskip h (fun x wr hE hD=>by simp only [Region.wanted,hg,hyv _ e x wr hE hD];rfl)
   ·exact h.elim
theorem rN {op:Op} {s:AS} {K K':AV->Prop} (h: ∀r,K r->K' r) (hd:dr P op s K):dr P op s K':=by
 obtain ⟨r,hk,hr⟩:=ix hd;have key: ∀r',r'=r->K' r':=fun r' e=>e ▸ h r hk;unfold dr at hr ⊢
 split at hr
 ·split at hr
  ·unfold cL at hr ⊢
   split at hr
   ·rename_i hb;rw [if_pos hb];exact key _ hr
   ·rename_i hb;rw [if_neg hb];exact key _ hr
  ·exact hr.elim
 ·split at hr
  ·unfold yb at hr ⊢
   split at hr
   ·obtain ⟨r',q1,q2⟩:=hr;exact ⟨r',q1,key _ q2⟩
   ·exact hr.elim
  ·unfold zV at hr ⊢
   split at hr
   ·exact ⟨hr.1,key _ hr.2⟩
   ·exact hr.elim
 ·unfold zV at hr ⊢
  split at hr
  ·exact ⟨hr.1,key _ hr.2⟩
  ·exact hr.elim
theorem BH {n0 id:Nat} {s:AS} {l:List Oper} {Q:aZ->AS->Prop} (m0:Nat) (hB:gI l.toArray m0=true) (hC:dP l.toArray=true) (h:mT P l (l.drop m0) (l.take m0) s (Q .normal)):cF P n0 (.region id l.toArray true) s Q:=by
 refine .inr (fun f m D nu a w hZr hn hm hs hmx R hO hR=> ?_)
 have hm0:m0<=l.length:=by
  simp only [gI,RY,decide_eq_true_eq,Rz] at hB;exact Sz hB.1.1.2
 obtain ⟨rs,hrel⟩:=gm (P:=P) (T:=xK P l.toArray R) hm0 hB hs.drew (fun sk a' wr hE ho hy hsk hB'=>lF (P:=P) (f:=f) (l:=l) (R:=R) (l.drop m0) m0 sk a' wr nu rfl hm0 hsk hB' (fun s' a2 w' nu' q1 q2 q3 q4=>hR .normal D f.Z s' a2 w' nu' (by
  rw [q2,hy];exact m.own hm hs.ro ((aw (cX w)).trans ((aw hE).trans (ho ▸ q1))) q3.ro) q3 q4)) (l.take m0) 0 s [] (fun _=>a) (by simp) (Rh _) ⟨rfl,rfl,rfl,fun _=>rfl,fun _=>hs.tm.len,fun x t c v h1 h2=> .inl ⟨h1,h2⟩⟩ h
 exact mR hmx hC hO (oE _ m0 hB hrel)
theorem AO {r:Option Nat} {n:Nat} {ops:Array Oper} (hC:dP ops=true) (R:Exit->Act->World->Prop):GC P ops (wpOpIn (WF r) n P ops R):=⟨fun h k=>wpOpIn_mono h k,fun {i o S K a w} hi h next=>by
 unfold wpOpIn;simp only [hi]
 rcases h with ⟨h1,h2⟩|⟨h1,h2⟩
 ·rw [if_pos h1];refine ⟨fun f _=>trivial, ?_⟩;rw [j5 hC hi];generalize (execOp a.eval o).run P w=r at h2
  cases r with
  | halt _ _=>exact h2.elim
  | ok n w'=>
   cases n<;>first|exact h2.elim|skip
   case value u=>exact next _ _ h2.1 h2.2
   case skip=>exact next _ _ h2.1 h2.2
   case enter f args=>
    refine ⟨fun e=>(by cases e),jo (Calls.mono h2 fun e w'' he=> ?_)⟩;obtain ⟨v,rfl,hv,hb⟩:=he
    exact next _ _ hv hb
 ·rw [if_neg (by rw [h1];decide)]
  exact ⟨fun f _=>trivial,next _ _ h2 (Below.refl _ _)⟩⟩
theorem tL {r:Option Nat} {n:Nat} {ops:Array Oper} {R:Exit->Act->World->Prop}: ∀(fuel:Nat) (listed:Array Bool) (a:Act) (w:World),ld (wpOpIn (WF r) n P ops R) ops (R .normal) fuel listed a w->wpAnyIn (WF r) n P .any ops R fuel listed a w
 | 0,_,_,_,h=>h
 | fuel+1,_,_,_,h=>⟨h.1,fun i hi=>wpOpIn_mono (fun _ _=>tL fuel _ _ _) (h.2 i hi)⟩
theorem mo {r:Option Nat} {n:Nat} {l:List Oper} {R:Exit->Act->World->Prop}: ∀(m k:Nat) (a:Act) (w:World),k+m=l.length->wpListIn (WF r) n P l.toArray R (l.drop k) a w->mI (wpOpIn (WF r) n P l.toArray R) (R .normal) (List.range' k m) a w
 | 0,k,a,w,hk,h=>by
  rw [List.drop_eq_nil_of_le (by omega)] at h;exact h
 | m+1,k,a,w,hk,h=>by
  have hlt:k<l.length:=by omega
  rw [List.drop_eq_getElem_cons hlt] at h;rw [Sx];simp only [mI,wpOpIn,Rr,Rp hlt];simp only [wpListIn] at h
  split at h
  ·rename_i hw;rw [if_pos hw];exact Oper.wpIn_mono (fun a w h=>mo m (k+1) a w (by omega) h) h
  ·rename_i hw;rw [if_neg hw];exact ⟨h.1,mo m (k+1) _ w (by omega) h.2⟩
theorem BI {n0 id:Nat} {s:AS} {l:List Oper} {Q:aZ->AS->Prop} (m0:Nat) (hB:gI l.toArray m0=true) (hC:dP l.toArray=true) (h:dI P l (fun s=>iS P l (l.drop m0) s (Q .normal)) (l.take m0) s):cF P n0 (.region id l.toArray true) s Q:=by
 refine .inr (fun f m D nu a w hZr hn hm hs hmx R hO hR=> ?_)
 have hm0:m0<=l.length:=by
  simp only [gI,RY,decide_eq_true_eq,Rz] at hB;exact Sz hB.1.1.2
 have hcalm: ∀oo,oo∈l.drop m0-> ∀c,oo.op ≠ .defer c:=fun oo ho c e=>by
  unfold dP at hC;rw [Sy] at hC;have h2:=hC oo (by simpa using List.mem_of_mem_drop ho);rw [e] at h2;cases h2
 obtain ⟨rs,hrel⟩:=gm (P:=P) (T:=fun k=>mI (wpOpIn (WF f.r) 9 P l.toArray R) (R .normal) (List.range' k (l.length - k))) hm0 hB hs.drew (fun sk a' wr hE ho hy hsk hB'=>mo _ _ _ _ (by omega) (iV m hZr _ sk a' wr D nu hcalm (by
  rw [ho,hy];exact m.own hm hs.ro ((aw (cX w)).trans (aw hE)) (ho ▸ hsk.ro)) hsk hB' (fun D' s' a2 w2 nu' q1 q2 q3=>hR .normal D' f.Z s' a2 w2 nu' q1 q2 q3))) (l.take m0) 0 s [] (fun _=>a) (by simp) (Rh _) ⟨rfl,rfl,rfl,fun _=>rfl,fun _=>hs.tm.len,fun x t c v h1 h2=> .inl ⟨h1,h2⟩⟩ h
 exact wpIn_region_any hmx (tL _ _ _ _ (fN _ (fun _=>false) (fun i v w h=>by cases h) m0 (AO hC R) hB (jG _ _ _ hrel)))
def qc:Op->Bool
 | .alloc _| .store .. | .mapUpdate .. | .insert .. | .makeSlice .. | .makeMap .. =>true
 | .call c=>match c.callee with
  | .builtin .append| .builtin .copy| .builtin .delete| .builtin .clear=>true
  | _=>false
 | _=>false
def nW:List Oper->Nat
 | []=>0
 | o :: l=>if qc o.op then 0 else nW l+1
def eU (P:Program) (all:List Oper):List Oper->AS->(AS->Prop)->Prop
 | [],s,Q=>Q s
 | oo :: rest,s,Q=>if qc oo.op then fe P all (oo :: rest) s Q else dN P all oo s (fun s'=>eU P all rest s' Q)
theorem jZ (all:List Oper): ∀(l:List Oper) (s:AS) (Q:AS->Prop),eU P all l s Q->mT P all (l.drop (nW l)) (l.take (nW l)) s Q
 | [],s,Q,h=>h
 | oo :: rest,s,Q,h=>by
  simp only [eU] at h
  by_cases he:qc oo.op=true
  ·rw [if_pos he] at h;simpa only [nW,he,if_true,List.drop_zero,List.take_zero,mT,dI] using h
  ·rw [if_neg he] at h;simp only [nW,he,if_false,List.drop_succ_cons,List.take_succ_cons,mT,dI,Bool.false_eq_true];unfold dN at h
   split at h
   ·rename_i hg;simp only [hg];exact rN (fun r hr=>jZ all rest _ Q hr) h
   ·rename_i j want hg;simp only [hg];unfold ri at h ⊢
    split at h
    ·rename_i b e;unfold cL at h ⊢
     split at h
     ·rename_i hb;rw [if_pos hb];exact rN (fun r hr=>jZ all rest _ Q hr) h
     ·rename_i hb;rw [if_neg hb];exact jZ all rest _ Q h
    ·rename_i e;exact jZ all rest _ Q h
    ·exact h.elim
theorem BF {n0 id:Nat} {s:AS} {l:List Oper} {Q:aZ->AS->Prop} (hB:gI l.toArray (nW l)=true) (hC:dP l.toArray=true) (h:eU P l l s (Q .normal)):cF P n0 (.region id l.toArray true) s Q:=
 BH (nW l) hB hC (jZ l l s _ h)
theorem DW {all rest:List Oper} {oo:Oper} {s:AS} {Q:AS->Prop} (he:qc oo.op=false) (h: ∀K:AS->Prop,(∀s',eU P all rest s' Q->K s')->dN P all oo s K):eU P all (oo :: rest) s Q:=by
 simp only [eU,he,Bool.false_eq_true,if_false];exact h _ (fun _ h=>h)
theorem yt {all rest:List Oper} {oo:Oper} {s:AS} {Q:AS->Prop} (he:qc oo.op=true) (h:fe P all (oo :: rest) s Q):eU P all (oo :: rest) s Q:=by
 simpa only [eU,he,if_true] using h
theorem yu {all:List Oper} {s:AS} {Q:AS->Prop} (h:Q s):eU P all [] s Q:=h
theorem GX {all rest:List Oper} {oo:Oper} {s:AS} {Q:AS->Prop} (h: ∀K:AS->Prop,(∀s',fe P all rest s' Q->K s')->mU P all oo s K):fe P all (oo :: rest) s Q:=h _ (fun _ h=>h)
theorem BB {all:List Oper} {s:AS} {Q:AS->Prop} (h:Q s):fe P all [] s Q:=h
theorem yx {all tail:List Oper} {s:AS} {Q:AS->Prop} (h:fe P all tail s Q):mT P all tail [] s Q:=h
@[go_sem] theorem GR (all:List Oper) (dst:Option Tmp) (op:Op) (ty:TypeId) (pos:String) (aft:Array Edge) (s:AS) (K:AS->Prop) :
  mU P all ⟨dst,op,ty,pos,aft,none⟩ s K=vq P op s (fun r o'=>K (s.put dst r o')):=rfl
@[go_sem] theorem GQ (all:List Oper) (dst:Option Tmp) (op:Op) (ty:TypeId) (pos:String) (aft:Array Edge) (j:Nat) (want:Bool) (s:AS) (K:AS->Prop) :
  mU P all ⟨dst,op,ty,pos,aft,some (j,want)⟩ s K=ri (iw all s j) want (vq P op s (fun r o'=>K (s.put dst r o'))) (K (s.put dst (.v Go.undef) s.o)):=rfl
end
end
section
class af (G:Prop) (H:outParam Prop):Prop where
 up:H->G
section
variable {P:Program} {all rest tail:List Oper} {n0:Nat} {s:AS} {Q:aZ->AS->Prop} {R K:AS->Prop} {oo o2:Oper} {i:Nat} {c d:Code} {x:Operand} {l:List Oper} {bx:List Bx} {k:Nat}
theorem DY {B:AS->Prop} (h: ∀K:AS->Prop,(∀s',dI P all B rest s'->K s')->dN P all oo s K):dI P all B (oo :: rest) s:=by
 have:=h _ (fun _ h=>h)
 unfold dN at this;simp only [dI]
 split at this<;>simp_all
instance {B:AS->Prop}:af (dI P all B (oo :: rest) s) (∀K:AS->Prop,(∀s',dI P all B rest s'->K s')->dN P all oo s K):=⟨DY⟩
instance:af (dI P all (fun s=>iS P all tail s R) [] s) (iS P all tail s R):=⟨fun h=>h⟩
instance:af (iS P all [] s R) (R s):=⟨D4⟩
instance:af (iS P all (oo :: rest) s R) (∀K:AS->Prop,(∀s',iS P all rest s' R->K s')->rP P all oo s K):=⟨JQ⟩
instance {dst:Option Tmp} {op:Op} {ty:TypeId} {pos:String} {aft:Array Edge}:af (er P all [⟨dst,op,ty,pos,aft,none⟩] s R) (∀K:AS->Prop,(∀s',R s'->K s')->vq P op s (fun r o'=>K (s.put dst r o'))):=⟨yz⟩
instance:af (er P all (oo :: o2 :: rest) s R) (∀K:AS->Prop,(∀s',er P all (o2 :: rest) s' R->K s')->dN P all oo s K):=⟨GN⟩
instance:af (cF P n0 (.seq c d) s Q) (∀K:AS->Prop,(∀s',cF P n0 d s' Q->K s')->cF P n0 c s (kZ K Q)):=⟨G5⟩
instance:af (cF P n0 (.region i l.toArray false) s Q) (iS P l l s (Q .normal)):=⟨yC⟩
instance:af (cF P n0 .skip s Q) (Q .normal s):=⟨Ed⟩
instance:af (cF P n0 (.block i c) s Q) (cF P n0 c s (tq i Q)):=⟨BD⟩
instance:af (cF P n0 (.cond x c d) s Q) (x8 (s.ev x) (cF P n0 c s Q) (cF P n0 d s Q)):=⟨D9⟩
instance:af (cF P n0 (.exit i) s Q) (Q (.exit i) s):=⟨Eb⟩
instance:af (cF P n0 .ret s Q) (Q .ret s):=⟨GY⟩
instance:af (cF P n0 (.scope c) s Q) (cF P n0 c s (vu Q)):=⟨BK⟩
instance:af (cF P n0 (.label i) s Q) (Q .normal s):=⟨BJ⟩
instance:af (cF P n0 (.goto i) s Q) (Q (.goto i) s):=⟨Ec⟩
instance:af (kZ K Q .normal s) (K s):=⟨vM⟩
instance:af (kZ K Q (.exit i) s) (Q (.exit i) s):=⟨Bz⟩
instance:af (kZ K Q .ret s) (Q .ret s):=⟨D7⟩
instance:af (kZ K Q (.goto i) s) (Q (.goto i) s):=⟨BA⟩
instance:af (tq i Q .normal s) (Q .normal s):=⟨vG⟩
instance:af (tq i Q .ret s) (Q .ret s):=⟨DU⟩
instance:af (tq i Q (.goto k) s) (Q (.goto k) s):=⟨Bn⟩
instance:af (tq i Q (.exit k) s) (if k=i then Q .normal s else Q (.exit k) s):=⟨fun h=>h⟩
instance:af (vu Q .normal s) (Q .normal s):=⟨vL⟩
instance:af (vu Q .ret s) (Q .ret s):=⟨D5⟩
instance:af (vu Q (.exit i) s) (Q (.exit i) s):=⟨Bw⟩
instance:af (eU P all [] s R) (R s):=⟨yu⟩
instance:af (fe P all [] s R) (R s):=⟨BB⟩
instance:af (fe P all (oo :: rest) s R) (∀K:AS->Prop,(∀s',fe P all rest s' R->K s')->mU P all oo s K):=⟨GX⟩
instance:af (mT P all tail [] s R) (fe P all tail s R):=⟨yx⟩
instance:af (gX P all [] k s bx R) (bx.all (fun b=>b.row.isSome)=true∧R (fA s bx)):=⟨DV⟩
end
theorem wE {P:Program} {n0 id:Nat} {s:AS} {l:List Oper} {Q:aZ->AS->Prop} (h:eU P l l s (Q .normal)) (hB:gI l.toArray (nW l)=true:=by decide+kernel) (hC:dP l.toArray=true:=by kernel_rfl):cF P n0 (.region id l.toArray true) s Q:=BF hB hC h
theorem wK {P:Program} {all rest:List Oper} {oo:Oper} {s:AS} {Q:AS->Prop} (h: ∀K:AS->Prop,(∀s',eU P all rest s' Q->K s')->dN P all oo s K) (he:qc oo.op=false:=by decide):eU P all (oo :: rest) s Q:=DW he h
theorem wF {P:Program} {all rest:List Oper} {oo:Oper} {s:AS} {Q:AS->Prop} (h:fe P all (oo :: rest) s Q) (he:qc oo.op=true:=by decide):eU P all (oo :: rest) s Q:=yt he h
end
end Go.Proofs.YtjcobjgjjlahdaaGreatDoor
