/- texts of one claim, one behind the other. -/
import Derived.Test.YtlhhccmopfamhaaGreatDoorXAbsN
import Derived.Test.YtlhhccmopfamhaaGreatDoorXFen
import Derived.OrdersIn
import Derived.ChangeArms
import Derived.Deep.Slices
import Derived.KernelRfl
import Derived.SizedLaws
import Derived.Test.YtlhhccmopfamhaaGreatDoorProg
import Derived.Test.YtlhhccmopfamhaaGreatDoorRows
import Derived.WalkKit
import Derived.ProofKit
import Derived.OpenShut
import Derived.RangeFuncNested
import Derived.RangeFuncBound
import Derived.RangeFuncCalls
import Derived.RangeFuncLeaves
import Derived.Shelf.Abstract
import Derived.Shelf.RegionOpen
import Derived.OwnWalkIn
import Derived.TacticsInMore
import Derived.LoopNIn
import Derived.LoopIn
import Derived.Maps.AppendAt
import Derived.Lib.SlicesCompact
set_option linter.unusedSimpArgs false
set_option linter.unusedVariables false
set_option maxRecDepth 100000
set_option maxHeartbeats 16000000
open Array renaming getElem?_eq_some_iff -> U2, getD_eq_getD_getElem? -> VV, getElem?_eq_getElem -> Vh, any_eq_true' -> V9, all_eq_true_iff_forall_mem -> VU
open Bool renaming and_eq_true -> VS, or_eq_true -> We, and_true -> Wg, true_and -> Wn
open List renaming nodup_nil -> V6, getElem?_eq_some_iff -> U4, mem_of_getElem? -> VD, getElem?_eq_getElem -> Vi, getElem?_cons_zero -> V7, getElem?_take_of_lt -> Vx, range'_succ -> Wb, all_eq_true -> Wc, mem_range -> Wd, size_toArray -> Vs, getElem?_toArray -> Vk, singleton_append -> V3, length_eq_zero_iff -> Wh, getElem?_map -> Vl, getElem?_range -> Vm, getElem?_eq_none -> Vn, append_nil -> Wj, append_eq_nil_iff -> Wl, mem_cons_self -> V4, mem_cons_of_mem -> V2, length_append -> U8, exists_cons_of_ne_nil -> Wm, findIdx?_eq_some_iff_getElem -> Wo, findIdx?_eq_none_iff -> Wp, pairwise_cons -> Wq, mem_cons -> Wr, pairwise_lt_range -> Ws, not_mem_nil -> Wt, mem_map -> Wu, drop_eq_getElem_cons -> Wv, mem_append -> Ww, mem_append_left -> Wx
open Nat renaming lt_or_ge -> U6, lt_of_lt_of_le -> U1, le_refl -> UZ, le_trans -> U0, sub_self -> V8, lt_trichotomy -> Wa, zero_le -> Va, le_of_lt -> Wf
open Option renaming bind_eq_some_iff -> Wi
namespace Go.Proofs.YtlhhccmopfamhaaGreatDoor
open Go.RowKit
section
structure zA (X:Nat->Prop) (w w':World):Prop where
 os:w'.os=w.os
 tape:w'.tape=w.tape
 output:w'.output=w.output
 size:w.heap.size<=w'.heap.size
 same: ∀b,b<w.heap.size-> ¬X b->w'.heap[b]? = w.heap[b]?
structure Fv (T:Nat->Prop) (w w':World):Prop where
 os:w'.os=w.os
 tape:w'.tape=w.tape
 output:w'.output=w.output
 size:w.heap.size<=w'.heap.size
 same: ∀b,b<w.heap.size->T b->w'.heap[b]? = w.heap[b]?
structure tv (P:Program) (l:Nat) where
 J:List (List AV)->(Nat->Prop)->(Nat->Prop)->World->Prop
 Jx:(Nat->Prop)->(Nat->Prop)->World->Prop
 St:Nat->Prop
 ma: ∀ {rest X T X' w w'},J rest X T w->zA X w w'->(∀b,X' b->b<w'.heap.size∧(X b∨w.heap.size<=b))->J rest X' (fun b=>T b∨(w.heap.size<=b∧b<w'.heap.size)) w'
 zI: ∀ {X T X' w w'},Jx X T w->zA X w w'->(∀b,X' b->b<w'.heap.size∧(X b∨w.heap.size<=b))->Jx X' (fun b=>T b∨(w.heap.size<=b∧b<w'.heap.size)) w'
 round: ∀ {x rest X T w D nu} {vals:Array Value},J (x :: rest) X T w->fE D nu [] w x vals->bp 0 x=true->(∀b,b<w.heap.size->D b->(T b∨St b)∧ ¬X b) ->
  YieldAt (WF none) 8 P l vals w (fun e w'=>Fv (fun b=>T b∨St b) w w'∧((e = .returned (.bool true)∧J rest X T w')∨(e = .returned (.bool false)∧Jx X T w')))
section
variable {D:Nat->Prop} {nu:Nat->Nat->Value} {o:List (Option aa)} {w:World} {P:Program}
def Oi {l:Nat} (pr:tv P l) (X T:Nat->Prop) (w:World):iW->Prop
 | .no=>False
 | .run l' rest=>l'=l∧pr.J rest X T w
 | .off=>pr.Jx X T w
theorem Oi.ma {l:Nat} {pr:tv P l} {X T X':Nat->Prop} {w w':World} {y:iW} (h:Oi pr X T w y) (ha:zA X w w') (hx: ∀b,X' b->b<w'.heap.size∧(X b∨w.heap.size<=b)):Oi pr X' (fun b=>T b∨(w.heap.size<=b∧b<w'.heap.size)) w' y:=by
 cases y with
 | no=>exact h.elim
 | run l' rest=>exact ⟨h.1,pr.ma h.2 ha hx⟩
 | off=>exact pr.zI h ha hx
def A4 (P:Program) (n0:Nat) {l:Nat} (pr:tv P l):WM P where
 n0:=n0
 fix:=fun _=>False
 M:=fun D nu o Z y w=> ∃X T,(∀b,owned nu o b->X b)∧(∀b,Z b->X b)∧(∀b,X b->T b)∧(∀b,T b->b<w.heap.size)∧(∀b,X b->owned nu o b∨ ¬D b)∧(∀b,Z b-> ¬D b)∧(∀b,b<w.heap.size->D b->T b∨pr.St b)∧n0<=o.length∧Oi pr X T w y
 step:=fun {D D' nu o Z Z' y w nu' o' w'} h hro hm hro' _ hD hDZ hZ hn=>by
  obtain ⟨X,T,h1,h2,h3,h4,h5,h5',h6,h7,h8⟩:=h
  have hX: ∀b,(owned nu' o' b∨Z' b∨(X b∧ ¬D' b))->b<w'.heap.size∧(X b∨w.heap.size<=b):=fun b hb=>by
   rcases hb with q|q|q
   ·refine ⟨hro'.a6 q, ?_⟩
    rcases U6 b w.heap.size with hlt|hge
    ·by_cases ho:owned nu o b
     ·exact .inl (h1 b ho)
     ·by_cases hz:Z b
      ·exact .inl (h2 b hz)
      ·exact absurd q (hm.keep b hlt ho hz).2
    ·exact .inr hge
   ·refine ⟨(hZ b q).1, ?_⟩
    rcases (hZ b q).2.2 with r|r|r
    ·exact .inl (h2 b r)
    ·exact .inl (h1 b r)
    ·exact .inr r
   ·exact ⟨U1 (h4 b (h3 b q.1)) hm.size, .inl q.1⟩
  refine ⟨fun b=>owned nu' o' b∨Z' b∨(X b∧ ¬D' b),fun b=>T b∨(w.heap.size<=b∧b<w'.heap.size),fun b h=> .inl h,fun b h=> .inr (.inl h),fun b hb=> ?_,fun b hb=> ?_,fun b hb=> ?_,fun b hb=>(hZ b hb).2.1,fun b hlt hd=> ?_,hn, ?_⟩
  ·obtain ⟨q1,q2⟩:=hX b hb
   rcases q2 with q2|q2
   ·exact .inl (h3 b q2)
   ·exact .inr ⟨q2,q1⟩
  ·rcases hb with q|q
   ·exact U1 (h4 b q) hm.size
   ·exact q.2
  ·rcases hb with q|q|q
   ·exact .inl q
   ·exact .inr (hZ b q).2.1
   ·exact .inr q.2
  ·rcases U6 b w.heap.size with hb|hb
   ·rcases hD b hd with q|q
    ·rcases h6 b hb q with q|q
     ·exact .inl (.inl q)
     ·exact .inr q
    ·exact .inl (.inl (h3 b (h2 b q)))
   ·exact .inl (.inr ⟨hb,hlt⟩)
  ·exact h8.ma ⟨hm.os,hm.tape,hm.output,hm.size,fun b hb hx=>(hm.keep b hb (fun ho=>hx (h1 b ho)) (fun hz=>hx (h2 b hz))).1⟩ hX
 mV:=fun h=>by
  obtain ⟨X,T,h1,h2,h3,h4,h5,h5',h6,h7,h8⟩:=h;exact ⟨fun b hb=>⟨h4 b (h3 b (h2 b hb)),h5' b hb⟩,h7,fun b hb=>hb.elim⟩
 yield:=fun {D nu o Z l' x rest w vals} h hro hra hw=>by
  obtain ⟨X,T,h1,h2,h3,h4,h5,h5',h6,h7,rfl,h8⟩:=h
  have hF: ∀b,Fz D nu o w b->Fz (fun b=>D b∧ ¬X b) nu [] w b:=fun b hf=>⟨hf.1,bd _ _,hf.2.2,fun hx=>by
   rcases h5 b hx with q|q
   ·exact hf.2.1 q
   ·exact q hf.2.2⟩
  have hra':fE (fun b=>D b∧ ¬X b) nu [] w x vals:=⟨hra.len,fun i c v q1 q2=>(hra.at' i c v q1 q2).tr (n:=0) hF (fun id len hlt=>by omega) (bO hw q1)⟩;obtain ⟨fn,tmps,assign,body,hrun,hround⟩:=pr.round h8 hra' hw (fun b hb hd=>⟨h6 b hb hd.1,hd.2⟩);refine ⟨fn,tmps,assign,body,hrun,hround.mono fun e w' he=> ?_⟩;obtain ⟨hk,he⟩:=he
  have hM: ∀y,Oi pr X T w' y-> ∃X T,(∀b,owned nu o b->X b)∧(∀b,Z b->X b)∧(∀b,X b->T b)∧(∀b,T b->b<w'.heap.size)∧(∀b,X b->owned nu o b∨ ¬(D b∧ ¬(w.heap.size<=b∧b<w'.heap.size)))∧(∀b,Z b-> ¬(D b∧ ¬(w.heap.size<=b∧b<w'.heap.size))) ∧
    (∀b,b<w'.heap.size->(D b∧ ¬(w.heap.size<=b∧b<w'.heap.size))->T b∨pr.St b)∧n0<=o.length∧Oi pr X T w' y:=fun y hy=>by
   refine ⟨X,T,h1,h2,h3,fun b hb=>U1 (h4 b hb) hk.size,fun b hb=> ?_,fun b hb hd=>h5' b hb hd.1,fun b hlt hd=> ?_,h7,hy⟩
   ·rcases h5 b hb with q|q
    ·exact .inl q
    ·exact .inr (fun hd=>q hd.1)
   ·exact h6 b (by have:=hd.2;omega) hd.1
  refine ⟨⟨hk.os,hk.tape,hk.output,hk.size,fun b hb hh=>hk.same b hb ?_⟩, ?_⟩
  ·rcases hh with q|q|q|q
   ·exact h6 b hb q
   ·exact .inl (h3 b (h2 b q))
   ·exact .inl (h3 b (h1 b q))
   ·exact q.elim
  ·rcases he with ⟨rfl,hj⟩|⟨rfl,hj⟩
   ·exact .inl ⟨rfl,hM _ ⟨rfl,hj⟩⟩
   ·exact .inr ⟨rfl,hM _ hj⟩
def oC (P:Program) (gf:FuncId) (caps:List AV) (oI:List (Option aa)) (L:List (List AV)):Prop:=
 df P gf=true∧ ∀(l:Nat) (pr:tv P l) (D:Nat->Prop) (nu:Nat->Nat->Value) (w:World) (vargs:Array Value) (X:Nat->Prop),RO D nu oI w->fE D nu oI w caps vargs->(∀b,owned nu oI b->X b)->(∀b,X b->owned nu oI b)->(∀b,b<w.heap.size->D b->X b∨pr.St b)->(∀b,pr.St b->b<w.heap.size)->pr.J L X X w ->
  Calls P gf (#[.func (.yield l) #[] #[]]++vargs) w (fun e w'=>(∃v,e = .returned v)∧ ∃X' T',pr.J [] X' T' w'∨pr.Jx X' T' w')
def zD (c:Bool) (P:Program) (gf:FuncId) (caps:List AV) (oI:List (Option aa)) (L:List (List AV)):Prop:=
 df P gf=true∧ ∀(l:Nat) (pr:tv P l),(c=true-> ∀rest rest' X T w,rest.Perm rest'->pr.J rest X T w->pr.J rest' X T w)-> ∀(D:Nat->Prop) (nu:Nat->Nat->Value) (w:World) (vargs:Array Value) (X:Nat->Prop),RO D nu oI w->fE D nu oI w caps vargs->(∀b,owned nu oI b->X b)->(∀b,X b->owned nu oI b)->(∀b,b<w.heap.size->D b->X b∨pr.St b)->(∀b,pr.St b->b<w.heap.size)->pr.J L X X w ->
  Calls P gf (#[.func (.yield l) #[] #[]]++vargs) w (fun e w'=>(∃v,e = .returned v)∧ ∃X' T',pr.J [] X' T' w'∨pr.Jx X' T' w')
def Fi (P:Program) (rs:List ResultVar) (l:Nat) (e:aR) (s:AS):Prop:=match e with
 | .ret| .normal=>lV (kG P s rs) s.o (fun _ _=>s.y = .run l []∨s.y = .off)
 | _=>False
theorem oC.enter {gf:FuncId} {fn:Func} {c:Code} {caps:List AV} {oI:List (Option aa)} {L:List (List AV)} (hf:P.funcs[gf]? = some fn) (hb:fn.body=some c) (hc:df P gf=true) (hok:bq c=true) (hmx:P.follows .mixedOrders=true)
  (h: ∀l,bS P oI.length c ⟨(.v (.func (.yield l) #[] #[]) :: caps)++List.replicate (fn.ntmps - (AV.v (.func (.yield l) #[] #[]) :: caps).length) .undef,oI, .run l L⟩ (Fi P fn.results.toList l)):oC P gf caps oI L:=by
 refine ⟨hc,fun l pr D nu w vargs X hro ha hx hx' hD hSt hJ=>qW (n:=9) (callsIn_of_wp_marks hf hb trivial ?_ rfl)⟩
 have ha':fE D nu oI w (.v (.func (.yield l) #[] #[]) :: caps) (#[.func (.yield l) #[] #[]]++vargs):=by
  refine ⟨by simp [ha.len];omega,fun i c v h1 h2=> ?_⟩
  cases i with
  | zero=>
   rw [Array.getElem?_append_left (by simp)] at h2;simp at h1 h2;subst h1;subst h2;exact .v _
  | succ i=>
   refine ha.at' i c v (by simpa using h1) ?_;rw [Array.getElem?_append_right (by simp)] at h2;simpa using h2
 have hs:RS ⟨w.heap.size,none,fun _=>False⟩ D nu ⟨(.v (.func (.yield l) #[] #[]) :: caps)++List.replicate (fn.ntmps - (AV.v (.func (.yield l) #[] #[]) :: caps).length) .undef,oI, .run l L⟩ { tmps:=(#[Value.func (.yield l) #[] #[]]++vargs)++Array.replicate (fn.ntmps - (#[Value.func (.yield l) #[] #[]]++vargs).size) Go.undef,defers:=[] } w:=xK rfl (UZ _) hro ha';have hX: ∀b,X b->b<w.heap.size:=fun b hb=>hro.a6 (hx' b hb);have hM:(A4 P oI.length pr).M D nu oI (fun _=>False) (.run l L) w:=⟨X,X,hx,fun b hb=>hb.elim,fun b hb=>hb,hX,fun b hb=> .inl (hx' b hb),fun b hb=>hb.elim,hD,UZ _,rfl,hJ⟩
 have fin: ∀(D' Z':Nat->Prop) (s':AS) (a':Act) (w':World) (nu':Nat->Nat->Value),(A4 P oI.length pr).M D' nu' s'.o Z' s'.y w'->RS ⟨w.heap.size,none,Z'⟩ D' nu' s' a' w'->lV (kG P s' fn.results.toList) s'.o (fun _ _=>s'.y = .run l []∨s'.y = .off) ->
   LeavesInM (WF none) 9 P fn a'.tmps (fun e w'=>(∃v,e = .returned v)∧ ∃X' T',pr.J [] X' T' w'∨pr.Jx X' T' w') a'.defers .returning w':=fun D' Z' s' a' w' nu' h1 h2 h3=>by
  obtain ⟨rs,k1,k2,k3⟩:=h2.iB.marks;rw [k2];refine jW (B:=w.heap.size) rs w' k1 (fun x hx=>⟨(k3 x hx).1,(k3 x hx).2.2⟩) (fun w2 hs2 hoth=> ?_);obtain ⟨X',T',g1,g2,g3,g4,g5,g5',g6,g7,g8⟩:=h1;have h2':RS ⟨w.heap.size,none,Z'⟩ D' nu' s' { tmps:=a'.tmps,defers:=[] } w2:=⟨hs2.ro h2.ro,⟨h2.tm.len,fun i c x q1 q2=>hs2.ra (h2.tm.at' i c x q1 q2)⟩,⟨by rw [hs2.size];exact h2.iB.base,⟨[],V6,rfl,fun x hx=>(by cases hx)⟩,fun l hl=>by cases hl⟩⟩;obtain ⟨v,r,q1,q2,q3⟩:=yI h2' h3;have ha2:zA X' w' w2:=⟨hs2.os,hs2.tape,hs2.output,Nat.le_of_eq hs2.size.symm,fun b _ hb=>hoth b (fun hbr=>hb (g2 b (k3 b hbr).2.1))⟩;have hx2: ∀b,X' b->b<w2.heap.size∧(X' b∨w'.heap.size<=b):=fun b hb=>⟨by rw [hs2.size];exact g4 b (g3 b hb), .inl hb⟩;refine ⟨v,q1,⟨v,rfl⟩,X',(fun b=>T' b∨(w'.heap.size<=b∧b<w2.heap.size)), ?_⟩
  rcases q3 with e|e
  ·rw [e] at g8;exact .inl (pr.ma g8.2 ha2 hx2)
  ·rw [e] at g8;exact .inr (pr.zI g8 ha2 hx2)
 refine wpIn_mono (fl (P:=P) hmx (f:=⟨w.heap.size,none,fun _=>False⟩) (A4 P oI.length pr) (fun l hl=>by cases hl) (UZ _) c hok _ _ w D nu (fun _=>False) _ (fun (e:Exit) a' w'=>e ≠ .outgrown∧bodyPostM (WF none) 9 P fn (fun e w'=>(∃v,e = .returned v)∧ ∃X' T',pr.J [] X' T' w'∨pr.Jx X' T' w') e a' w') (fun a w hh=>hh.1 rfl) hM hs (h l) (fun e D' Z' s' a' w' nu' h1 h2 h3=> ?_)) (fun e a w hh=>hh.2)
 cases e with
 | ret=>exact ⟨by simp [aR.real],fin D' Z' s' a' w' nu' h1 h2 h3⟩
 | normal=>exact ⟨by simp [aR.real],fin D' Z' s' a' w' nu' h1 h2 h3⟩
 | exit id=>exact h3.elim
 | goto l=>exact h3.elim
end
end
section
mutual
theorem AV.CX {n m:Nat} (h:n<=m): ∀a:AV,a.wf n=true->a.wf m=true
 | .undef,_=>rfl
 | .v _,_=>rfl
 | .agg cs,ha=>by simp only [AV.wf] at ha ⊢; exact kg h cs ha
 | .cy cs,ha=>by simp only [AV.wf] at ha ⊢; exact kg h cs ha
 | .aH _ rows _,ha=>by simp only [AV.wf] at ha ⊢; exact sK h rows ha
 | .vp cs,ha=>by simp only [AV.wf] at ha ⊢; exact kg h cs ha
 | .ptr id _ _ _ _,ha=>by simp only [AV.wf,decide_eq_true_eq] at ha ⊢; omega
 | .vec id _,ha=>by simp only [AV.wf,decide_eq_true_eq] at ha ⊢; omega
 | .fn _ f c,ha=>by
  simp only [AV.wf,VS] at ha ⊢;exact ⟨kg h f ha.1,kg h c ha.2⟩
 | .full a,ha=>by simp only [AV.wf] at ha ⊢; exact AV.CX h a ha
 | .gu p a,ha=>by simp only [AV.wf] at ha ⊢; exact AV.CX h a ha
 | .mp rows,ha=>by simp only [AV.wf] at ha ⊢; exact sK h rows ha
theorem kg {n m:Nat} (h:n<=m): ∀l:List AV,bp n l=true->bp m l=true
 | [],_=>rfl
 | a :: l,ha=>by
  simp only [bp,VS] at ha ⊢;exact ⟨AV.CX h a ha.1,kg h l ha.2⟩
theorem sK {n m:Nat} (h:n<=m): ∀l:List (List AV),bZ n l=true->bZ m l=true
 | [],_=>rfl
 | a :: l,ha=>by
  simp only [bZ,VS] at ha ⊢;exact ⟨kg h a ha.1,sK h l ha.2⟩
end
section
variable {D D':Nat->Prop} {nu:Nat->Nat->Value} {o:List (Option aa)} {w w':World} {P:Program}
theorem E6 (m:WM P) {f:Fr} {t:List AV} {a:Act} {C Z Z':Nat->Prop} {y:iW} (h:m.M D nu o Z y w) (hs:RS f D nu ⟨t,o,y⟩ a w) (e1:w'.os=w.os) (e2:w'.tape=w.tape) (e3:w'.output=w.output) (hsz:w.heap.size<=w'.heap.size)
  (same: ∀b,b<w.heap.size-> ¬C b->w'.heap[b]? = w.heap[b]?) (hC: ∀b,C b->Z b∧ ¬f.Z b∧f.r≠some b) (hDn: ∀b,b<w.heap.size->D b->D' b) (hup: ∀b,w'.heap.size<=b->D' b) (hD1: ∀b,D' b->D b∨Z b)
  (hD2: ∀b,w.heap.size<=b->b<w'.heap.size->D' b∨Z' b) (hZ': ∀b,Z' b->b<w'.heap.size∧ ¬D' b∧(Z b∨w.heap.size<=b)):m.M D' nu o Z' y w'∧RS f D' nu ⟨t,o,y⟩ a w':=by
 have hz:=m.mV h;have DC: ∀b,D b-> ¬C b:=fun b d c=>(hz.1 b (hC b c).1).2 d;have hF: ∀b,Fz D nu o w b->w'.heap[b]? = w.heap[b]? ∧Fz D' nu o w' b:=fun b hf=>⟨same b hf.1 (DC b hf.2.2),U1 hf.1 hsz,hf.2.1,hDn b hf.1 hf.2.2⟩;have hro':RO D' nu o w':=hs.ro.keep (fun b hb=>⟨same b (hs.ro.a6 hb) (DC b (hs.ro.jO hb)),hDn b (hs.ro.a6 hb) (hs.ro.jO hb)⟩) hup hF
 refine ⟨m.step h hs.ro ⟨e1,e2,e3,hsz,fun id len _ hh=>⟨hh,rfl⟩,fun b hb hno hnz=>⟨same b hb (fun c=>hnz (hC b c).1),hno⟩⟩ hro' (fun c v hr _=>hr.keep hF) hD1 (fun b hb=> ?_) (fun b hb=>⟨(hZ' b hb).1,(hZ' b hb).2.1,(hZ' b hb).2.2.elim .inl (fun q=> .inr (.inr q))⟩) hz.2.1,hro',⟨hs.tm.len,fun i c x q1 q2=>(hs.tm.at' i c x q1 q2).keep hF⟩,
  hs.iB.keep hsz (fun b ob hb hob _=>(same b (U2.1 hob).1 (fun c=> ?_)).trans hob)⟩
 ·rcases U6 b w.heap.size with q|q
  ·exact .inl (hDn b q hb)
  ·rcases U6 b w'.heap.size with q'|q'
   ·exact hD2 b q q'
   ·exact .inl (hup b q')
 ·rcases hb with q|q
  ·exact (hC b c).2.1 q
  ·exact (hC b c).2.2 q
structure Core (m:WM P) (f:Fr) (N l:Nat) (t0:List AV) (a:Act) (St:Nat->Prop) (q:Loop) (D:Nat->Prop) (nu:Nat->Nat->Value) (o:List (Option aa)) (y:iW) (X T:Nat->Prop) (w:World):Prop where
 mm:m.M D nu o (fun b=>f.Z b∨X b∨b=l) y w
 rs:RS f D nu ⟨t0,o,y⟩ a w
 xz: ∀b,X b-> ¬f.Z b∧b≠l
 xt: ∀b,X b->T b
 tl: ∀b,T b->b<w.heap.size
 td: ∀b,T b-> ¬X b->D b
 to: ∀b,T b-> ¬owned nu o b
 st: ∀b,St b->D b∧ ¬owned nu o b∧b<w.heap.size
 kY:w.heap[l]? = some (.loop q)
 n:N<=o.length
variable {m:WM P} {f:Fr} {N l:Nat} {t0:List AV} {a:Act} {St:Nat->Prop} {q:Loop} {y:iW} {X T:Nat->Prop}
theorem Core.MP (h:Core m f N l t0 a St q D nu o y X T w) (hZr: ∀l,f.r=some l->m.fix l) {b:Nat} (hb:X b∨b=l):f.r≠some b:=fun e=>
 ((m.mV h.mm).2.2 b (hZr b e)).2.1 (.inr hb)
theorem Core.ma (h:Core m f N l t0 a St q D nu o y X T w) (hZr: ∀l,f.r=some l->m.fix l) {X':Nat->Prop} (ha:zA X w w') (hx: ∀b,X' b->b<w'.heap.size∧(X b∨w.heap.size<=b)) :
  Core m f N l t0 a St q (fun b=>(D b∨X b)∧ ¬X' b) nu o y X' (fun b=>T b∨(w.heap.size<=b∧b<w'.heap.size)) w':=by
 have hz:=m.mV h.mm;have DX: ∀b,D b-> ¬X b:=fun b d x=>(hz.1 b (.inr (.inl x))).2 d;have hll:l<w.heap.size:=(U2.1 h.kY).1;have hup:=h.rs.ro.up
 have key:=E6 (C:=X) (D':=fun b=>(D b∨X b)∧ ¬X' b) (Z':=fun b=>f.Z b∨X' b∨b=l) m h.mm h.rs ha.os ha.tape ha.output ha.size ha.same (fun b hb=>⟨.inr (.inl hb),(h.xz b hb).1,h.MP hZr (.inl hb)⟩)
  (fun b hb hd=>⟨.inl hd,fun hx'=>(hx b hx').2.elim (DX b hd) (by omega)⟩) (fun b hb=>⟨.inl (hup b (U0 ha.size hb)),fun hx'=>by have:=(hx b hx').1;omega⟩)
  (fun b hd=>hd.1.elim .inl (fun x=> .inr (.inr (.inl x)))) (fun b hb _=>by
   by_cases hx':X' b
   ·exact .inr (.inr (.inl hx'))
   ·exact .inl ⟨.inl (hup b hb),hx'⟩)
  (fun b hb=>by
   rcases hb with hb|hb|hb
   ·have:=hz.1 b (.inl hb)
    refine ⟨U1 this.1 ha.size,fun hd=> ?_, .inl (.inl hb)⟩
    rcases hd.1 with q|q
    ·exact this.2 q
    ·exact (h.xz b q).1 hb
   ·refine ⟨(hx b hb).1,fun hd=>hd.2 hb, ?_⟩
    rcases (hx b hb).2 with q|q
    ·exact .inl (.inr (.inl q))
    ·exact .inr q
   ·have:=hz.1 b (.inr (.inr hb))
    refine ⟨U1 this.1 ha.size,fun hd=> ?_, .inl (.inr (.inr hb))⟩
    rcases hd.1 with q|q
    ·exact this.2 q
    ·exact (h.xz b q).2 hb)
 refine ⟨key.1,key.2,fun b hb=> ?_,fun b hb=> ?_,fun b hb=> ?_,fun b hb hnx=> ?_,fun b hb=> ?_,fun b hb=> ?_,(ha.same l hll (fun x=>(h.xz l x).2 rfl)).trans h.kY,h.n⟩
 ·rcases (hx b hb).2 with q|q
  ·exact h.xz b q
  ·exact ⟨fun hf=>by have:=(hz.1 b (.inl hf)).1;omega,by omega⟩
 ·rcases (hx b hb).2 with q|q
  ·exact .inl (h.xt b q)
  ·exact .inr ⟨q,(hx b hb).1⟩
 ·rcases hb with q|q
  ·exact U1 (h.tl b q) ha.size
  ·exact q.2
 ·refine ⟨?_,hnx⟩
  rcases hb with q|q
  ·by_cases hxb:X b
   ·exact .inr hxb
   ·exact .inl (h.td b q hxb)
  ·exact .inl (hup b q.1)
 ·rcases hb with q|q
  ·exact h.to b q
  ·exact fun ho=>by have:=h.rs.ro.a6 ho;omega
 ·obtain ⟨q1,q2,q3⟩:=h.st b hb;exact ⟨⟨.inl q1,fun hx'=>(hx b hx').2.elim (DX b q1) (by omega)⟩,q2,U1 q3 ha.size⟩
theorem Core.put (h:Core m f N l t0 a St q D nu o y X T w) (hZr: ∀l,f.r=some l->m.fix l) (hl: ¬f.Z l) (q':Loop):Core m f N l t0 a St q' D nu o y X T (w.putObj l (.loop q')):=by
 have hz:=m.mV h.mm;have hll:l<w.heap.size:=(U2.1 h.kY).1
 have key:=E6 (C:=fun b=>b=l) (D':=D) (Z':=fun b=>f.Z b∨X b∨b=l) (w':=w.putObj l (.loop q')) m h.mm h.rs rfl rfl rfl (by simp) (fun b hb hne=>World.putObj_heap_other hne) (fun b hb=>⟨.inr (.inr hb),by rw [hb];exact hl,h.MP hZr (.inr hb)⟩)
  (fun b hb hd=>hd) (fun b hb=>h.rs.ro.up b (by simpa using hb)) (fun b hd=> .inl hd) (fun b hb hb'=>absurd hb' (by simp;omega)) (fun b hb=>⟨by simpa using (hz.1 b hb).1,(hz.1 b hb).2, .inl hb⟩)
 exact ⟨key.1,key.2,h.xz,h.xt,fun b hb=>by simpa using h.tl b hb,h.td,h.to,fun b hb=>⟨(h.st b hb).1,(h.st b hb).2.1,by simpa using (h.st b hb).2.2⟩,World.putObj_heap_same hll,h.n⟩
theorem Core.Lo (h:Core m f N l t0 a St q D nu o y X T w) (hmn:m.n0<=N) {o':List (Option aa)} {y':iW} (hk:Wk N ⟨t0,o,y⟩ ⟨t0,o',y'⟩):Core m f N l t0 a St q D nu o' y' X T w:=by
 have hz:=m.mV h.mm;have hy:y=y':=hk.y;subst hy;have hs2:=gW hk h.rs;have hno: ∀b,b<w.heap.size-> ¬owned nu o b-> ¬owned nu o' b:=fun b hb hn=>((hk.rS (nu:=nu) (w:=w) (Z:=fun _=>False)).keep b hb hn (fun h=>h)).2;exact ⟨m.step h.mm h.rs.ro hk.rS hs2.ro (fun c v hr hc=>hk.ra hr hc) (fun _ h=> .inl h) (fun _ h=> .inl h) (fun b hb=>⟨(hz.1 b hb).1,(hz.1 b hb).2, .inl hb⟩) (U0 hmn hk.n),hs2,h.xz,h.xt,h.tl,h.td,fun b hb=>hno b (h.tl b hb) (h.to b hb),fun b hb=>⟨(h.st b hb).1,hno b (h.st b hb).2.2 (h.st b hb).2.1,(h.st b hb).2.2⟩,h.kY,hk.n⟩
theorem Core.done (h:Core m f N l t0 a St q D nu o y X T w) (hZr: ∀l,f.r=some l->m.fix l) (hl: ¬f.Z l) (q':Loop):m.M (fun b=>D b∨X b∨b=l) nu o f.Z y (w.putObj l (.loop q'))∧RS f (fun b=>D b∨X b∨b=l) nu ⟨t0,o,y⟩ a (w.putObj l (.loop q')):=by
 have hz:=m.mV h.mm
 refine E6 (C:=fun b=>b=l) m h.mm h.rs rfl rfl rfl (by simp) (fun b hb hne=>World.putObj_heap_other hne) (fun b hb=>⟨.inr (.inr hb),by rw [hb];exact hl,h.MP hZr (.inr hb)⟩)
  (fun b hb hd=> .inl hd) (fun b hb=> .inl (h.rs.ro.up b (by simpa using hb))) (fun b hd=>hd.elim .inl (fun q=> .inr (.inr q))) (fun b hb hb'=>absurd hb' (by simp;omega)) (fun b hb=>⟨by simpa using (hz.1 b (.inl hb)).1,fun hd=> ?_, .inl (.inl hb)⟩)
 rcases hd with q|q|q
 ·exact (hz.1 b (.inl hb)).2 q
 ·exact (h.xz b q).1 hb
 ·rw [q] at hb;exact hl hb
structure fJ (m:WM P) (f:Fr) (N l:Nat) (t0:List AV) (a:Act) (St X T:Nat->Prop) (w0:World) (q:Loop) (D:Nat->Prop) (nu:Nat->Nat->Value) (o:List (Option aa)) (Z:Nat->Prop) (y:iW) (w:World):Prop where
 mm:m.M D nu o (fun b=>Z b∨(f.Z b∨X b∨b=l)) y w
 zz: ∀b,f.Z b∨X b∨b=l-> ¬Z b
 tm:fE D nu o w t0 a.tmps
 iB:FR f a.defers w
 kY:w.heap[l]? = some (.loop q)
 os:w.os=w0.os
 tape:w.tape=w0.tape
 output:w.output=w0.output
 size:w0.heap.size<=w.heap.size
 same: ∀b,T b∨St b->w.heap[b]? = w0.heap[b]?
 xz: ∀b,X b-> ¬f.Z b∧b≠l
 xt: ∀b,X b->T b
 tl: ∀b,T b->b<w0.heap.size
 td: ∀b,T b-> ¬X b->D b
 to: ∀b,T b-> ¬owned nu o b
 st: ∀b,St b->D b∧ ¬owned nu o b∧b<w0.heap.size
 n:N<=o.length
theorem Core.round (h:Core m f N l t0 a St q D nu o y X T w):fJ m f N l t0 a St X T w q D nu o (fun _=>False) y w:=by
 have e:(fun b=>False∨(f.Z b∨X b∨b=l))=(fun b=>f.Z b∨X b∨b=l):=by funext b;simp
 exact ⟨by rw [e];exact h.mm,fun _ _ h=>h,h.rs.tm,h.rs.iB,h.kY,rfl,rfl,rfl,UZ _,fun _ _=>rfl,h.xz,h.xt,h.tl,h.td,h.to,h.st,h.n⟩
variable {w0:World} {Z:Nat->Prop}
theorem fJ.step (hmn:m.n0<=N) (hZr: ∀l,f.r=some l->m.fix l) (ht0: ∀(i:Nat) c,t0[i]? = some c->c.wf N=true) {nu':Nat->Nat->Value} {o':List (Option aa)} {Z':Nat->Prop}
  (h:fJ m f N l t0 a St X T w0 q D nu o Z y w) (hro:RO D nu o w) (hm:BI Z nu o w nu' o' w') (hro':RO D' nu' o' w') (hra: ∀c v,RA D nu o w c v->c.wf o'.length=true->RA D' nu' o' w' c v) (hD1: ∀b,D' b->D b∨Z b) (hD2: ∀b,D b->D' b∨Z' b)
  (hZ: ∀b,Z' b->b<w'.heap.size∧ ¬D' b∧(Z b∨owned nu o b∨w.heap.size<=b)) (hn:N<=o'.length):fJ m f N l t0 a St X T w0 q D' nu' o' Z' y w':=by
 have hz:=m.mV h.mm;have nD: ∀b,f.Z b∨X b∨b=l->b<w.heap.size∧ ¬D b:=fun b hb=>hz.1 b (.inr hb);have nO: ∀b,f.Z b∨X b∨b=l-> ¬owned nu o b:=fun b hb ho=>(nD b hb).2 (hro.jO ho)
 have nZ': ∀b,f.Z b∨X b∨b=l-> ¬Z' b:=fun b hb hz'=>by
  rcases (hZ b hz').2.2 with q|q|q
  ·exact h.zz b hb q
  ·exact nO b hb q
  ·have:=(nD b hb).1;omega
 have nD': ∀b,f.Z b∨X b∨b=l-> ¬D' b:=fun b hb hd=>by
  rcases hD1 b hd with q|q
  ·exact (nD b hb).2 q
  ·exact h.zz b hb q
 have keepF: ∀b,f.Z b∨X b∨b=l->w'.heap[b]? = w.heap[b]? ∧ ¬owned nu' o' b:=fun b hb=>hm.keep b (nD b hb).1 (nO b hb) (h.zz b hb)
 have stay: ∀b,b<w.heap.size->D b-> ¬owned nu o b->(w'.heap[b]? = w.heap[b]? ∧ ¬owned nu' o' b)∧D' b:=fun b hb hd hno=>by
  have hnz: ¬Z b:=fun hz'=>(hz.1 b (.inl hz')).2 hd;refine ⟨hm.keep b hb hno hnz, ?_⟩
  rcases hD2 b hd with q|q
  ·exact q
  ·rcases (hZ b q).2.2 with r|r|r
   ·exact absurd r hnz
   ·exact absurd r hno
   ·omega
 have hTS: ∀b,T b∨St b->(w'.heap[b]? = w.heap[b]? ∧ ¬owned nu' o' b)∧(D b->D' b):=fun b hb=>by
  have hs0:=h.size
  rcases hb with q|q
  ·have hlt:=h.tl b q
   by_cases hx:X b
   ·exact ⟨keepF b (.inr (.inl hx)),fun hd=>absurd hd (nD b (.inr (.inl hx))).2⟩
   ·obtain ⟨r1,r2⟩:=stay b (by omega) (h.td b q hx) (h.to b q);exact ⟨r1,fun _=>r2⟩
  ·obtain ⟨k1,k2,k3⟩:=h.st b q;obtain ⟨r1,r2⟩:=stay b (by omega) k1 k2;exact ⟨r1,fun _=>r2⟩
 refine ⟨m.step h.mm hro ⟨hm.os,hm.tape,hm.output,hm.size,hm.p8,fun b h1 h2 h3=>hm.keep b h1 h2 (fun hz'=>h3 (.inl hz'))⟩ hro' hra (fun b hd=>(hD1 b hd).elim .inl (fun q=> .inr (.inl q))) (fun b hd=>(hD2 b hd).elim .inl (fun q=> .inr (.inl q))) (fun b hb=> ?_) (U0 hmn hn),nZ',⟨h.tm.len,fun i c x q1 q2=>hra c x (h.tm.at' i c x q1 q2) (AV.CX hn c (ht0 i c q1))⟩,
  h.iB.keep hm.size (fun b ob hb hob _=> ?_),(keepF l (.inr (.inr rfl))).1.trans h.kY,hm.os.trans h.os,hm.tape.trans h.tape,hm.output.trans h.output,U0 h.size hm.size,fun b hb=>(hTS b hb).1.1.trans (h.same b hb),h.xz,h.xt,h.tl,fun b hb hx=>(hTS b (.inl hb)).2 (h.td b hb hx),fun b hb=>(hTS b (.inl hb)).1.2,fun b hb=>⟨(hTS b (.inr hb)).2 (h.st b hb).1,(hTS b (.inr hb)).1.2,(h.st b hb).2.2⟩,hn⟩
 ·rcases hb with q|q
  ·obtain ⟨r1,r2,r3⟩:=hZ b q;exact ⟨r1,r2,r3.elim (fun r=> .inl (.inl r)) .inr⟩
  ·exact ⟨U1 (nD b q).1 hm.size,nD' b q, .inl (.inr q)⟩
 ·rcases hb with q|q
  ·exact (keepF b (.inl q)).1.trans hob
  ·obtain ⟨k1,k2,k3⟩:=hz.2.2 b (hZr b q);exact (hm.keep b k1 (jZ hro hob (by assumption)) (fun hz'=>k2 (.inl hz'))).1.trans hob
theorem fJ.others (hZr: ∀l,f.r=some l->m.fix l) {y':iW} (h:fJ m f N l t0 a St X T w0 q D nu o Z y w) (hro:RO D nu o w) (e1:w'.os=w.os) (e2:w'.tape=w.tape) (e3:w'.output=w.output) (hsz:w.heap.size<=w'.heap.size)
  (hk: ∀b,b<w.heap.size->D b∨(Z b∨(f.Z b∨X b∨b=l))∨owned nu o b∨m.fix b->w'.heap[b]? = w.heap[b]?) (hM:m.M (fun b=>D b∧ ¬(w.heap.size<=b∧b<w'.heap.size)) nu o (fun b=>Z b∨(f.Z b∨X b∨b=l)) y' w') :
  fJ m f N l t0 a St X T w0 q (fun b=>D b∧ ¬(w.heap.size<=b∧b<w'.heap.size)) nu o Z y' w':=by
 have hz:=m.mV h.mm;have hs0:=h.size;have hF: ∀b,Fz D nu o w b->w'.heap[b]? = w.heap[b]? ∧Fz (fun b=>D b∧ ¬(w.heap.size<=b∧b<w'.heap.size)) nu o w' b:=fun b hf=>⟨hk b hf.1 (.inl hf.2.2),U1 hf.1 hsz,hf.2.1,hf.2.2,fun hh=>by have:=hf.1;omega⟩
 refine ⟨hM,h.zz,⟨h.tm.len,fun i c x q1 q2=>(h.tm.at' i c x q1 q2).keep hF⟩,h.iB.keep hsz (fun b ob hb hob _=>(hk b (U2.1 hob).1 ?_).trans hob),(hk l (hz.1 l (.inr (.inr (.inr rfl)))).1 (.inr (.inl (.inr (.inr (.inr rfl)))))).trans h.kY,e1.trans h.os,e2.trans h.tape,e3.trans h.output,U0 h.size hsz,fun b hb=> ?_,h.xz,h.xt,h.tl,
  fun b hb hx=>⟨h.td b hb hx,fun hh=>by have:=h.tl b hb;omega⟩,h.to,fun b hb=>⟨⟨(h.st b hb).1,fun hh=>by have:=(h.st b hb).2.2;omega⟩,(h.st b hb).2⟩,h.n⟩
 ·rcases hb with q|q
  ·exact .inr (.inl (.inr (.inl q)))
  ·exact .inr (.inr (.inr (hZr b q)))
 ·refine (hk b ?_ ?_).trans (h.same b hb)
  ·rcases hb with q|q
   ·have:=h.tl b q;omega
   ·have:=(h.st b q).2.2;omega
  ·rcases hb with q|q
   ·by_cases hx:X b
    ·exact .inr (.inl (.inr (.inr (.inl hx))))
    ·exact .inl (h.td b q hx)
   ·exact .inl (h.st b q).1
def Ig (P:Program) (m:WM P) (f:Fr) (N l:Nat) (t0:List AV) (a:Act) (St X T:Nat->Prop) (w0:World) (q:Loop) (hmn:m.n0<=N) (hZr: ∀l,f.r=some l->m.fix l) (ht0: ∀(i:Nat) c,t0[i]? = some c->c.wf N=true):WM P where
 n0:=N
 fix:=fun b=>m.fix b∨f.Z b∨X b∨b=l
 M:=fJ m f N l t0 a St X T w0 q
 step:=fun h hro hm hro' hra hD1 hD2 hZ hn=>h.step hmn hZr ht0 hro hm hro' hra hD1 hD2 hZ hn
 mV:=fun h=>by
  have hz:=m.mV h.mm;refine ⟨fun b hb=>hz.1 b (.inl hb),h.n,fun b hb=> ?_⟩
  rcases hb with q|q
  ·obtain ⟨k1,k2,k3⟩:=hz.2.2 b q;exact ⟨k1,fun hh=>k2 (.inl hh),k3⟩
  ·exact ⟨(hz.1 b (.inr q)).1,h.zz b q,(hz.1 b (.inr q)).2⟩
 yield:=fun {D nu o Z l' x rest w vals} h hro hra hw=>by
  obtain ⟨fn,tmps,assign,body,hrun,hround⟩:=m.yield h.mm hro hra hw;refine ⟨fn,tmps,assign,body,hrun,hround.mono fun e w' he=> ?_⟩;obtain ⟨⟨e1,e2,e3,hsz,hk⟩,he⟩:=he
  refine ⟨⟨e1,e2,e3,hsz,fun b hb hh=>hk b hb ?_⟩, ?_⟩
  ·rcases hh with q|q|q|q|q
   ·exact .inl q
   ·exact .inr (.inl (.inl q))
   ·exact .inr (.inr (.inl q))
   ·exact .inr (.inr (.inr q))
   ·exact .inr (.inl (.inr q))
  ·rcases he with ⟨rfl,hM⟩|⟨rfl,hM⟩
   ·exact .inl ⟨rfl,h.others hZr hro e1 e2 e3 hsz hk hM⟩
   ·exact .inr ⟨rfl,h.others hZr hro e1 e2 e3 hsz hk hM⟩
theorem fJ.close (h:fJ m f N l t0 a St X T w0 q D nu o Z y w) (hro:RO D nu o w):Core m f N l t0 a St q (fun b=>D b∨Z b) nu o y X T w:=by
 have hz:=m.mV h.mm;have hs0:=h.size
 have key:=E6 (C:=fun _=>False) (D':=fun b=>D b∨Z b) (Z':=fun b=>f.Z b∨X b∨b=l) (w':=w) (t:=t0) (a:=a) (f:=f) m h.mm ⟨hro,h.tm,h.iB⟩ rfl rfl rfl (UZ _) (fun b hb _=>rfl) (fun b hb=>hb.elim) (fun b hb hd=> .inl hd) (fun b hb=> .inl (hro.up b hb)) (fun b hd=>hd.elim .inl (fun q=> .inr (.inl q)))
  (fun b h1 h2=>by omega) (fun b hb=>⟨(hz.1 b (.inr hb)).1,fun hd=>hd.elim (hz.1 b (.inr hb)).2 (h.zz b hb), .inl (.inr hb)⟩)
 exact ⟨key.1,key.2,h.xz,h.xt,fun b hb=>by have:=h.tl b hb;omega,fun b hb hx=> .inl (h.td b hb hx),h.to,fun b hb=>⟨.inl (h.st b hb).1,(h.st b hb).2.1,by have:=(h.st b hb).2.2;omega⟩,h.kY,h.n⟩
theorem fJ.put (hZr: ∀l,f.r=some l->m.fix l) (hl: ¬f.Z l) {f':Fr} {t:List AV} {a':Act} (hf':f'.r=some l∧f'.B=0∧f'.Z=Z) (h:fJ m f N l t0 a St X T w0 q D nu o Z y w) (hs:RS f' D nu ⟨t,o,y⟩ a' w) (q':Loop) (hT: ∀b,T b∨St b->b≠l) :
  fJ m f N l t0 a St X T w0 q' D nu o Z y (w.putObj l (.loop q'))∧RS f' D nu ⟨t,o,y⟩ a' (w.putObj l (.loop q')):=by
 have hz:=m.mV h.mm;have hll:l<w.heap.size:=(U2.1 h.kY).1;have hrl:f.r≠some l:=fun e=>(hz.2.2 l (hZr l e)).2.1 (.inr (.inr (.inr rfl)))
 have hsz:(w.putObj l (.loop q')).heap.size=w.heap.size:=by simp
 have key:=E6 (C:=fun b=>b=l) (D':=D) (Z':=fun b=>Z b∨(f.Z b∨X b∨b=l)) (w':=w.putObj l (.loop q')) (t:=t0) (a:=a) (f:=f) m h.mm ⟨hs.ro,h.tm,h.iB⟩ rfl rfl rfl (by simp) (fun b hb hne=>World.putObj_heap_other hne) (fun b hb=>⟨.inr (.inr (.inr hb)),by rw [hb];exact hl,by rw [hb];exact hrl⟩)
  (fun b hb hd=>hd) (fun b hb=>hs.ro.up b (by simpa using hb)) (fun b hd=> .inl hd) (fun b hb hb'=>absurd hb' (by simp;omega)) (fun b hb=>⟨by simpa using (hz.1 b hb).1,(hz.1 b hb).2, .inl hb⟩)
 have hF: ∀b,Fz D nu o w b->(w.putObj l (.loop q')).heap[b]? = w.heap[b]? ∧Fz D nu o (w.putObj l (.loop q')) b:=fun b hf=>⟨World.putObj_heap_other (fun e=>by rw [e] at hf;exact (hz.1 l (.inr (.inr (.inr rfl)))).2 hf.2.2),by rw [hsz];exact hf.1,hf.2⟩;refine ⟨⟨key.1,h.zz,key.2.tm,key.2.iB,World.putObj_heap_same hll,h.os,h.tape,h.output,by rw [hsz];exact h.size,fun b hb=>(World.putObj_heap_other (hT b hb)).trans (h.same b hb),h.xz,h.xt,h.tl,h.td,h.to,h.st,h.n⟩,key.2.ro,⟨hs.tm.len,fun i c x q1 q2=>(hs.tm.at' i c x q1 q2).keep hF⟩, ?_⟩;obtain ⟨rs,k1,k2,k3⟩:=hs.iB.marks
 refine ⟨by rw [hf'.2.1];exact Nat.zero_le _,⟨rs,k1,k2,fun x hx=>⟨(k3 x hx).1,(k3 x hx).2.1,(World.putObj_heap_other (fun e=> ?_)).trans (k3 x hx).2.2⟩⟩,fun l' hl'=> ?_⟩
 ·have:=(k3 x hx).2.1
  rw [hf'.2.2,e] at this;exact h.zz l (.inr (.inr rfl)) this
 ·rw [hf'.1] at hl';cases hl';exact ⟨q',World.putObj_heap_same hll⟩
def eH (ps:List Nat) (x t:List AV):List AV:=(ps.zip x).foldl (fun t pv=>t.set pv.1 pv.2) t
theorem sw: ∀(ps:List Nat) (x t:List AV) (vs:List Value) (tmps:Array Value),fE D nu o w t tmps->x.length=vs.length->(∀(i:Nat) c v,x[i]? = some c->vs[i]? = some v->RA D nu o w c v)->fE D nu o w (eH ps x t) ((ps.zip vs).foldl (fun tmps p=>tmps.setIfInBounds p.1 p.2) tmps)
 | [],x,t,vs,tmps,h,_,_=>by simpa [eH] using h
 | p :: ps,[],t,[],tmps,h,_,_=>by simpa [eH] using h
 | p :: ps,c :: x,t,v :: vs,tmps,h,hl,hx=>by
  have h1:fE D nu o w (t.set p c) (tmps.setIfInBounds p v):=by
   refine ⟨by simpa using h.len,fun i c' v' q1 q2=> ?_⟩
   by_cases hd:p=i
   ·subst hd;have hlt:=(U4.1 q1).1;simp only [List.length_set] at hlt;rw [List.getElem?_set_self hlt] at q1;rw [Array.getElem?_setIfInBounds_self_of_lt (by have:=h.len;omega)] at q2;cases q1;cases q2;exact hx 0 c v rfl rfl
   ·rw [List.getElem?_set_ne hd] at q1;rw [Array.getElem?_setIfInBounds_ne hd] at q2;exact h.at' i c' v' q1 q2
  exact sw ps x _ vs _ h1 (by simpa using hl) (fun i c' v' q1 q2=>hx (i+1) c' v' (by simpa using q1) (by simpa using q2))
 | p :: ps,[],t,v :: vs,tmps,_,hl,_=>by simp at hl
 | p :: ps,c :: x,t,[],tmps,_,hl,_=>by simp at hl
def aR.code:aR->Code
 | .normal=> .skip
 | .exit id=> .exit id
 | .goto l=> .goto l
 | .ret=> .ret
def ki (N:Nat) (t0:List AV) (p:Prop) (o':List (Option aa)) (y':iW) (Q:aR->AS->Prop) (e:aR) (s:AS):Prop:=match e with
 | .normal=>p∧Wk N ⟨t0,s.o,s.y⟩ ⟨t0,o',y'⟩
 | e=>Q e ⟨t0,s.o,s.y⟩
def jB (P:Program) (N:Nat) (body:Code) (R:aR->AS->Prop) (e:aR) (s:AS):Prop:=match e with
 | .normal=>bS P N body s R
 | _=>False
def A9 {ι:Type} (At:ι->List (List AV)->Prop) (nx:ι->List AV->ι) (hmx:P.follows .mixedOrders=true) (m:WM P) (f:Fr) (N l:Nat) (t0:List AV) (a:Act) (St:Nat->Prop) (q:Loop) (O:ι->List (Option aa)) (Y:ι->iW) (ok:ι->Prop) (Q:aR->AS->Prop) (hmn:m.n0<=N) (hZr: ∀l,f.r=some l->m.fix l) (hl: ¬f.Z l) (ht0: ∀(i:Nat) c,t0[i]? = some c->c.wf N=true)
  (hq:q.state = .ready∧q.pending=none∧q.tmps=a.tmps) (hA:bq q.assign=true) (hB:bq q.body=true) (har: ∀k x rest,At k (x :: rest)->x.length=q.params.size) (hnx: ∀k x rest,At k (x :: rest)->At (nx k x) rest)
  (hround: ∀k x rest,ok k->At k (x :: rest)->bS P N q.assign ⟨eH q.params.toList x t0,O k,Y k⟩ (jB P N q.body (ki N t0 (ok (nx k x)) (O (nx k x)) (Y (nx k x)) Q))):tv P l where
 J:=fun rest X T w=> ∃k D nu,At k rest∧ok k∧Core m f N l t0 a St q D nu (O k) (Y k) X T w
 Jx:=fun X T w=> ∃e D nu o y,e ≠ .normal∧Q e ⟨t0,o,y⟩∧Core m f N l t0 a St { q with state:= .done,pending:=some e.code } D nu o y X T w
 St:=St
 ma:=fun h ha hx=>by
  obtain ⟨k,D,nu,h1,h2,h3⟩:=h;exact ⟨k,_,nu,h1,h2,h3.ma hZr ha hx⟩
 zI:=fun h ha hx=>by
  obtain ⟨e,D,nu,o,y,h1,h2,h3⟩:=h;exact ⟨e,_,nu,o,y,h1,h2,h3.ma hZr ha hx⟩
 round:=fun {x rest X T w D nu vals} hJ hra hw hD=>by
  obtain ⟨k,Dc,nuc,hat,hok,hc⟩:=hJ;have hz:=m.mV hc.mm
  have hra':fE Dc nuc (O k) w x vals:=⟨hra.len,fun i c v q1 q2=>(hra.at' i c v q1 q2).tr (n:=0) (fun b hf=>by
   obtain ⟨h1,h2⟩:=hD b hf.1 hf.2.2
   rcases h1 with h1|h1
   ·exact ⟨hf.1,hc.to b h1,hc.td b h1 h2⟩
   ·exact ⟨hf.1,(hc.st b h1).2.1,(hc.st b h1).1⟩) (fun id len hlt=>by omega) (bO hw q1)⟩
  have hTl: ∀b,T b∨St b->b≠l:=fun b hb e=>by
   have hnl: ¬Dc l:=(hz.1 l (.inr (.inr rfl))).2
   rcases hb with h|h
   ·by_cases hxb:X b
    ·exact (hc.xz b hxb).2 e
    ·exact hnl (e ▸ hc.td b h hxb)
   ·exact hnl (e ▸ (hc.st b h).1)
  have hlen:vals.size=q.params.size:=by rw [<-hra.len,har k x rest hat]
  refine ⟨q.fn,_,q.assign,q.body,run_yield hc.kY hlen,roundIn_of_wpIn trivial ?_⟩
  have htm:fE Dc nuc (O k) w (eH q.params.toList x t0) ((q.params.zip vals).foldl (fun tmps (t,a)=>tmps.setIfInBounds t a) q.tmps):=by
   have:=sw q.params.toList x t0 vals.toList a.tmps hc.rs.tm (by simpa using hra.len) (fun i c v q1 q2=>hra'.at' i c v q1 (by simpa using q2))
   rw [<-hq.2.2] at this;rw [<-Array.toList_zip,Array.foldl_toList] at this;exact this
  have hs:RS ⟨0,some l,fun _=>False⟩ Dc nuc ⟨eH q.params.toList x t0,O k,Y k⟩ { tmps:=(q.params.zip vals).foldl (fun tmps (t,a)=>tmps.setIfInBounds t a) q.tmps,defers:=[] } w:=
   ⟨hc.rs.ro,htm,⟨Nat.zero_le _,⟨[],V6,rfl,fun x hx=>(by cases hx)⟩,fun l' hl'=>by cases hl';exact ⟨q,hc.kY⟩⟩⟩
  refine IY (n:=9) (fl (f:=⟨0,some l,fun _=>False⟩) hmx (Ig P m f N l t0 a St X T w q hmn hZr ht0) (fun l' hl'=>by cases hl';exact .inr (.inr (.inr rfl))) (UZ N) q.assign hA ⟨eH q.params.toList x t0,O k,Y k⟩ _ w Dc nuc (fun _=>False) _ _ (fun a w h=>h) hc.round hs (hround k x rest hok hat) (fun e D1 Z1 s1 a1 w1 nu1 h1 h2 h3=> ?_))
  cases e with
  | exit i=>exact h3.elim
  | goto i=>exact h3.elim
  | ret=>exact h3.elim
  | normal=>
   refine ⟨_,run_beginRound h1.kY hq.1, ?_⟩;obtain ⟨h4,h5⟩:=h1.put hZr hl (f':=(Fr.mk 0 (some l) (fun _=>False)).wz Z1) ⟨rfl,rfl,rfl⟩ h2 { q with state:= .busy } hTl;refine IY (n:=9) (fl (f:=⟨0,some l,fun _=>False⟩) hmx (Ig P m f N l t0 a St X T w { q with state:= .busy } hmn hZr ht0) (fun l' hl'=>by cases hl';exact .inr (.inr (.inr rfl))) (UZ N) q.body hB s1 a1 _ D1 nu1 Z1 _ _ (fun a w h=>h) h4 h5 h3 (fun e D2 Z2 s2 a2 w2 nu2 k1 k2 k3=> ?_));have hcl:=k1.close k2.ro;have hkept: ∀q',Fv (fun b=>T b∨St b) w (w2.putObj l (.loop q')):=fun q'=>⟨k1.os,k1.tape,k1.output,by simpa using k1.size,fun b _ hb=>(World.putObj_heap_other (hTl b hb)).trans (k1.same b hb)⟩
   have jump: ∀e,e ≠ .normal->Q e ⟨t0,s2.o,s2.y⟩-> ∃v w',(Instr.endRound l (some e.code)).run P w2 = .ok v w'∧(Fv (fun b=>T b∨St b) w w'∧((Ending.returned v = .returned (.bool true)∧ ∃k D nu,At k rest∧ok k∧Core m f N l t0 a St q D nu (O k) (Y k) X T w')∨(Ending.returned v = .returned (.bool false)∧ ∃e D nu o y,e ≠ .normal∧Q e ⟨t0,o,y⟩∧Core m f N l t0 a St { q with state:= .done,pending:=some e.code } D nu o y X T w'))):=fun e he hQ=>by
    refine ⟨_,_,run_endRound (some e.code) k1.kY,hkept _, .inr ⟨rfl,e,(fun b=>D2 b∨Z2 b),nu2,s2.o,s2.y,he,hQ, ?_⟩⟩;exact hcl.put hZr hl _
   cases e with
   | normal=>
    refine ⟨_,_,run_endRound none k1.kY,hkept _, .inl ⟨rfl,nx k x,(fun b=>D2 b∨Z2 b),nu2,hnx k x rest hat,k3.1, ?_⟩⟩
    have:=(hcl.put hZr hl { q with state:= .ready,pending:=none }).Lo hmn k3.2
    have e:({ q with state:= .ready,pending:=none }:Loop)=q:=by
     obtain ⟨e1,e2,_⟩:=hq;cases q;simp only at e1 e2;subst e1;subst e2;rfl
    rw [e] at this;simp only [Option.isNone_none,if_true];have e':({ { q with state:= .busy } with state:= .ready,pending:=none }:Loop)=q:=e;rw [e'];exact this
   | exit i=>exact jump (.exit i) (by simp) k3
   | goto i=>exact jump (.goto i) (by simp) k3
   | ret=>exact jump .ret (by simp) k3
theorem Ba (m:WM P) {f:Fr} {t:List AV} {a:Act} {o:List (Option aa)} {y:iW} (hm:m.M D nu o f.Z y w) (hs:RS f D nu ⟨t,o,y⟩ a w) (fn:FuncId) (ps:Array Tmp) (assign body:Code) :
  ∃l mk w1 Z1 q D1,(Instr.enterLoop fn a.tmps ps assign body f.r).run P w = .ok (l,mk) w1∧(q.state = .ready∧q.pending=none∧q.tmps=a.tmps)∧(q.params=ps∧q.assign=assign∧q.body=body)∧ ¬Z1 l∧w1.heap[l]? = some (.loop q)∧Below w.heap.size w w1 ∧
   m.M D1 nu o (fun b=>Z1 b∨b=l) y w1∧RS (f.wz Z1) D1 nu ⟨t,o,y⟩ { a with defers:=mk++a.defers } w1∧(∀b,b<w.heap.size->D b->D1 b)∧(∀b,D1 b->D b)∧ ∀b,f.Z b->Z1 b:=by
 have hz:=m.mV hm
 have gen: ∀(w1:World) (Z1:Nat->Prop) (l:Nat),Below w.heap.size w w1->(∀b,f.Z b->Z1 b)->(∀b,Z1 b->f.Z b∨(w.heap.size<=b∧b<w1.heap.size))->w.heap.size<=l->l<w1.heap.size ->
   m.M (fun b=>D b∧ ¬(Z1 b∨b=l)) nu o (fun b=>Z1 b∨b=l) y w1∧RS f (fun b=>D b∧ ¬(Z1 b∨b=l)) nu ⟨t,o,y⟩ a w1:=fun w1 Z1 l hb h1 h2 h3 h4=>by
  refine E6 (C:=fun _=>False) m hm hs hb.os hb.tape hb.output hb.size (fun b hlt _=>hb.block b hlt) (fun b h=>h.elim) (fun b hlt hd=>⟨hd,fun hh=> ?_⟩) (fun b hge=>⟨hs.ro.up b (U0 hb.size hge),fun hh=> ?_⟩) (fun b hd=> .inl hd.1) (fun b hge hlt=> ?_) (fun b hh=>⟨?_,fun hd=>hd.2 hh, ?_⟩)
  ·rcases hh with q|q
   ·rcases h2 b q with r|r
    ·exact (hz.1 b r).2 hd
    ·omega
   ·omega
  ·rcases hh with q|q
   ·rcases h2 b q with r|r
    ·have:=(hz.1 b r).1;have:=hb.size;omega
    ·omega
   ·omega
  ·by_cases hh:Z1 b∨b=l
   ·exact .inr hh
   ·exact .inl ⟨hs.ro.up b hge,hh⟩
  ·rcases hh with q|q
   ·rcases h2 b q with r|r
    ·exact U1 (hz.1 b r).1 hb.size
    ·exact r.2
   ·omega
  ·rcases hh with q|q
   ·rcases h2 b q with r|r
    ·exact .inl r
    ·exact .inr r.1
   ·exact .inr (by omega)
 cases hr:f.r with
 | none=>
  obtain ⟨q,hq⟩: ∃q:Loop,q={ state:= .ready,pending:=none,fn,tmps:=a.tmps,params:=ps,assign,body,defers:=w.heap.size }:=⟨_,rfl⟩;obtain ⟨w1,hw1⟩: ∃w1,w1=(w.alloc (.deferred (some []))).alloc (.loop q):=⟨_,rfl⟩
  have hb:Below w.heap.size w w1:=by rw [hw1];exact ((Below.refl _ w).alloc (UZ _) _).alloc (by simp) _
  have hsz:w1.heap.size=w.heap.size+2:=by rw [hw1];simp
  have hL:w1.heap[w.heap.size+1]? = some (.loop q):=by
   rw [hw1];have:=World.alloc_heap_new (w.alloc (.deferred (some []))) (.loop q);rwa [World.size_alloc] at this
  have hK:w1.heap[w.heap.size]? = some (.deferred (some [])):=by
   rw [hw1];exact (Below.heap_alloc _ _ _ (by simp)).trans (World.alloc_heap_new w _)
  obtain ⟨g1,g2⟩:=gen w1 (fun b=>f.Z b∨b=w.heap.size) (w.heap.size+1) hb (fun b h=> .inl h) (fun b h=>h.elim .inl (fun e=> .inr (by omega))) (by omega) (by omega)
  refine ⟨w.heap.size+1,[AN w.heap.size],w1,(fun b=>f.Z b∨b=w.heap.size),q,_, ?_,by rw [hq];exact ⟨rfl,rfl,rfl⟩,by rw [hq];exact ⟨rfl,rfl,rfl⟩, ?_,hL,hb,g1,⟨g2.ro,g2.tm, ?_⟩, ?_,fun b hd=>hd.1,fun b h=> .inl h⟩
  ·rw [hw1,hq];exact run_enterLoop_outer _ _ _ _ _
  ·rintro (h|h)
   ·have:=(hz.1 _ h).1;omega
   ·omega
  ·obtain ⟨rs,k1,k2,k3⟩:=g2.iB.marks
   refine ⟨g2.iB.base,⟨w.heap.size :: rs,List.nodup_cons.2 ⟨fun hm=> ?_,k1⟩,by simp only [List.map_cons,List.singleton_append];rw [k2],fun x hx=> ?_⟩,g2.iB.loop⟩
   ·have:=(hz.1 _ (k3 _ hm).2.1).1;omega
   ·rcases List.mem_cons.1 hx with e|e
    ·subst e;exact ⟨hs.iB.base, .inr rfl,hK⟩
    ·exact ⟨(k3 x e).1, .inl (k3 x e).2.1,(k3 x e).2.2⟩
  ·refine fun b hlt hd=>⟨hd,fun hh=> ?_⟩
   rcases hh with (q|q)|q
   ·exact (hz.1 b q).2 hd
   ·omega
   ·omega
 | some l0=>
  obtain ⟨q0,hq0⟩:=hs.iB.loop l0 hr;obtain ⟨q,hq⟩: ∃q:Loop,q={ state:= .ready,pending:=none,fn,tmps:=a.tmps,params:=ps,assign,body,defers:=q0.defers }:=⟨_,rfl⟩;obtain ⟨w1,hw1⟩: ∃w1,w1=w.alloc (.loop q):=⟨_,rfl⟩
  have hb:Below w.heap.size w w1:=by rw [hw1];exact (Below.refl _ w).alloc (UZ _) _
  have hsz:w1.heap.size=w.heap.size+1:=by rw [hw1];simp
  have hL:w1.heap[w.heap.size]? = some (.loop q):=by rw [hw1];exact World.alloc_heap_new w _
  obtain ⟨g1,g2⟩:=gen w1 f.Z w.heap.size hb (fun b h=>h) (fun b h=> .inl h) (by omega) (by omega)
  refine ⟨w.heap.size,[],w1,f.Z,q,_, ?_,by rw [hq];exact ⟨rfl,rfl,rfl⟩,by rw [hq];exact ⟨rfl,rfl,rfl⟩, ?_,hL,hb,g1,⟨g2.ro,g2.tm, ?_⟩, ?_,fun b hd=>hd.1,fun b h=>h⟩
  ·rw [hw1,hq];exact run_enterLoop_inner hq0 _ _ _ _ _
  ·intro h;have:=(hz.1 _ h).1;omega
  ·exact g2.iB.LW (fun b h=>h)
  ·refine fun b hlt hd=>⟨hd,fun hh=> ?_⟩
   rcases hh with q|q
   ·exact (hz.1 b q).2 hd
   ·omega
theorem qO {n0:Nat} {s:AS} {Q:aR->AS->Prop} {g:Operand} {ps:Array Tmp} {assign body:Code} {gf:FuncId} {caps0:List AV} {oI:List (Option aa)} {L:List (List AV)} {c:Bool} (hseq:zD c P gf caps0 oI L) {ι:Type} (At:ι->List (List AV)->Prop) (nx:ι->List AV->ι) (i0:ι) (hat0:At i0 L) (hnx: ∀k x rest,At k (x :: rest)->At (nx k x) rest) (hpm:c=true-> ∀k rest rest',rest.Perm rest'->At k rest->At k rest') (ids:List Nat) (hnd:ids.Nodup)
  (hids:ids.map (fun i=>s.o[i]?)=oI.map (fun x=>some (x.map (aa.aV (sig ids s.o.length))))) (hwo: ∀(k:Nat) ob,oI[k]? = some (some ob)->bZ ids.length ob.rows=true) (O:ι->List (Option aa)) (Y:ι->iW) (ok:ι->Prop) (h0:ok i0) (t0:List AV)
  (hg:s.ev g = .fn gf [] (bw (sig ids s.o.length) caps0)) (hcaps:bp ids.length caps0=true) (hdead: ∀i,i∈ids-> ∀ob,(O i0)[i]? ≠ some (some ob)) (hwk:Wk n0 s ⟨t0,O i0,Y i0⟩) (hA:bq assign=true) (hB:bq body=true) (har: ∀k x rest,At k (x :: rest)->x.length=ps.size)
  (hround: ∀k x rest,ok k->At k (x :: rest)->bS P (O i0).length assign ⟨eH ps.toList x t0,O k,Y k⟩ (jB P (O i0).length body (ki (O i0).length t0 (ok (nx k x)) (O (nx k x)) (Y (nx k x)) Q)))
  (hfin: ∀k,At k []->ok k->Q .normal ⟨t0,O k,Y k⟩):bS P n0 (.rangeFunc g ps assign body) s Q:=by
 intro f m D nu a w hZr hn hm hs hmx R hO hR;have hgv:=hs.ev g;rw [hg] at hgv
 obtain ⟨ca,hgv',hca⟩: ∃ca,a.eval g = .func (.func gf) #[] ca∧fE D nu s.o w (bw (sig ids s.o.length) caps0) ca:=by
  revert hgv
  generalize a.eval g=v;intro hgv
  cases hgv with
  | fn _ _ _ fi ca h1 h2 _ h4=>
   obtain rfl:fi = #[]:=Array.eq_empty_of_size_eq_zero (by simpa using h1.symm);exact ⟨ca,rfl,h2,h4⟩
 have hz:=m.mV hm;obtain ⟨ro0,own0,fz0,hdr0,obj0⟩:=rz ids hs.ro hnd hids hwo;obtain ⟨X,hX⟩: ∃X:Nat->Prop,X=owned (fun k len=>nu (sig ids s.o.length k) len) oI:=⟨_,rfl⟩;rw [<-hX] at own0;obtain ⟨_,al,_⟩:=jz hwk
 have Xn: ∀b,X b-> ¬owned nu (O i0) b:=fun b hb ⟨id,ob,h1,h2⟩=>by
  rw [hX] at hb;obtain ⟨k,ob',h3,h4⟩:=hb;obtain ⟨i,q1,q2,q3⟩:=obj0 k ob' h3;have hne:i≠id:=fun e=>hdead i (VD q1) ob (by rw [e];exact h1);refine hs.ro.sep i id _ _ b q3 (al id ob h1) hne ?_ h2;rw [aa.dX, <- q2];exact h4
 have XD: ∀b,X b->D b∧b<w.heap.size:=fun b hb=>⟨hs.ro.jO (own0 b hb),hs.ro.a6 (own0 b hb)⟩
 
 have hFX: ∀b,Fz D nu s.o w b->D b∧ ¬X b:=fun b hf=>⟨hf.2.2,fun hx=>hf.2.1 (own0 b hx)⟩
 have hs2:RS (f.wz (fun b=>f.Z b∨X b)) (fun b=>D b∧ ¬X b) nu ⟨t0,O i0,Y i0⟩ a w:=by
  have:=zk (D':=fun b=>D b∧ ¬X b) hwk hs hFX (fun b ho=>⟨hs.ro.jO (by obtain ⟨id,ob,h1,h2⟩:=ho;exact ⟨id,ob,al id ob h1,h2⟩),fun hx=>Xn b hx ho⟩) (fun b hb=>⟨hs.ro.up b hb,fun hx=>by have:=(XD b hx).2;omega⟩)
  exact ⟨this.ro,this.tm,this.iB.LW (fun b h=> .inl h)⟩
 have hm2:m.M (fun b=>D b∧ ¬X b) nu (O i0) (fun b=>f.Z b∨X b) (Y i0) w:=by
  have hy:s.y=Y i0:=hwk.y;rw [<-hy];exact m.step hm hs.ro hwk.rS hs2.ro (fun c v hr hc=>hwk.TB hFX hr hc) (fun _ h=> .inl h.1) (fun b h=>(Classical.em (X b)).elim (fun q=> .inr (.inr q)) (fun q=> .inl ⟨h,q⟩)) (fun b hb=>hb.elim (fun q=>⟨(hz.1 b q).1,fun hd=>(hz.1 b q).2 hd.1, .inl q⟩) (fun q=>⟨(XD b q).2,fun hd=>hd.2 q, .inr (.inl (own0 b q))⟩)) (U0 hn hwk.n)
 have hmn:m.n0<=(O i0).length:=U0 hn hwk.n
 have ht0: ∀(i:Nat) c,t0[i]? = some c->c.wf (O i0).length=true:=fun i c hc=>by
  rcases (u0 hwk.t).2 i c hc with e|e
  ·rw [e];rfl
  ·exact e.2
 refine wpIn_rangeFunc (F:=WF f.r) (n:=9) (fun fn _=> ?_);obtain ⟨l,mk,w1,Z1,q,D1,hent,hq,⟨rfl,rfl,rfl⟩,hl,hL,hb,hM1,hS1,hDD,hDD',hZZ⟩:=Ba (f:=f.wz (fun b=>f.Z b∨X b)) m hm2 hs2 fn ps assign body;obtain ⟨St,hSt⟩: ∃St:Nat->Prop,St=fun b=>b<w.heap.size∧D b∧ ¬owned nu s.o b:=⟨_,rfl⟩;have hno: ∀b,b<w.heap.size-> ¬owned nu s.o b-> ¬owned nu (O i0) b:=fun b h1 h2=>((hwk.rS (nu:=nu) (w:=w) (Z:=fun _=>False)).keep b h1 h2 (fun h=>h)).2;have hXZ: ∀b,X b->Z1 b:=fun b hx=>hZZ b (.inr hx);have hXl: ∀b,X b->b≠l:=fun b hx e=>hl (e ▸ hXZ b hx);have hl': ¬(fun b=>Z1 b∧ ¬X b) l:=fun h=>hl h.1;have hZr': ∀l,(f.wz (fun b=>Z1 b∧ ¬X b)).r=some l->m.fix l:=hZr
 have hXnote: ∀b,X b-> ∀ob,w1.heap[b]? = some ob->rH ob=false:=fun b hx ob hob=>by
  rw [hb.block b (XD b hx).2] at hob
  cases hn:rH ob with
  | false=>rfl
  | true=>exact absurd (own0 b hx) (jZ hs.ro hob hn)
 have hcore:Core m (f.wz (fun b=>Z1 b∧ ¬X b)) (O i0).length l t0 { a with defers:=mk++a.defers } St q D1 nu (O i0) (Y i0) X X w1:=by
  have e:(fun b=>(f.wz (fun b=>Z1 b∧ ¬X b)).Z b∨X b∨b=l)=(fun b=>Z1 b∨b=l):=funext fun b=>propext ⟨fun h=>h.elim (fun q=> .inl q.1) (fun q=>q.elim (fun q=> .inl (hXZ b q)) .inr),fun h=>h.elim (fun q=>(Classical.em (X b)).elim (fun hx=> .inr (.inl hx)) (fun hx=> .inl ⟨q,hx⟩)) (fun q=> .inr (.inr q))⟩
  refine ⟨by rw [e];exact hM1,⟨hS1.ro,hS1.tm,hS1.iB.base, ?_,hS1.iB.loop⟩,fun b h=>⟨fun hh=>hh.2 h,hXl b h⟩,fun b h=>h,fun b h=>U1 (XD b h).2 hb.size,fun b h h'=>absurd h h',Xn,fun b h=> ?_,hL,UZ _⟩
  ·obtain ⟨rs,k1,k2,k3⟩:=hS1.iB.marks;exact ⟨rs,k1,k2,fun x hx=>⟨(k3 x hx).1,⟨(k3 x hx).2.1,fun hxx=>by have:=hXnote x hxx _ (k3 x hx).2.2;cases this⟩,(k3 x hx).2.2⟩⟩
  ·rw [hSt] at h;exact ⟨hDD b h.1 ⟨h.2.1,fun hx=>h.2.2 (own0 b hx)⟩,hno b h.1 h.2.2,U1 h.1 hb.size⟩
 let pr:=A9 (P:=P) At nx hmx m (f.wz (fun b=>Z1 b∧ ¬X b)) (O i0).length l t0 { a with defers:=mk++a.defers } St q O Y ok Q hmn hZr' hl' ht0 hq hA hB har hnx hround
 have hFI: ∀b,Fz (fun b=>D b∧ ¬(b<w.heap.size∧ ∃id ob,id∉ids∧s.o[id]? = some (some ob)∧b9 (nu id ob.hl)=some b)) (fun k len=>nu (sig ids s.o.length k) len) oI w b->w1.heap[b]? = w.heap[b]? ∧Fz (fun b=>St b∨X b∨w1.heap.size<=b) (fun k len=>nu (sig ids s.o.length k) len) oI w1 b:=fun b hf=>by
  refine ⟨hb.block b hf.1,U1 hf.1 hb.size,hf.2.1, .inl ?_⟩;rw [hSt];refine ⟨hf.1,hf.2.2.1,fun ⟨id,ob,h1,h2⟩=> ?_⟩
  by_cases hmem:id∈ids
  ·obtain ⟨k,hk⟩:=List.getElem?_of_mem hmem;have e:=congrArg (fun l=>l[k]?) hids;simp only [List.getElem?_map,hk,Option.map_some,h1] at e
   cases hy:oI[k]? with
   | none=>rw [hy] at e;cases e
   | some y=>
    rw [hy] at e;simp only [Option.map_some,Option.some.injEq] at e;obtain ⟨ob0,rfl,rfl⟩:=Option.map_eq_some_iff.1 e.symm;refine hf.2.1 ⟨k,ob0,hy, ?_⟩;obtain ⟨i,q1,q2,_⟩:=obj0 k ob0 hy;rw [hk] at q1;cases q1;rw [aa.dX] at h2;show b9 (nu (sig ids s.o.length k) _)=_;rw [q2];exact h2
  ·exact hf.2.2.2 ⟨hf.1,id,ob,hmem,h1,h2⟩
 have hcalls:=hseq.2 l pr (fun hc rest rest' X T w hp hJ=>by
  obtain ⟨k,D,nu,h1,h2⟩:=hJ
  exact ⟨k,D,nu,hpm hc k rest rest' hp h1,h2⟩) (fun b=>St b∨X b∨w1.heap.size<=b) (fun k len=>nu (sig ids s.o.length k) len) w1 ca X (ro0.keep (fun b ho=>⟨hb.block b (ro0.a6 ho), .inr (.inl (by rw [hX];exact ho))⟩) (fun b h=> .inr (.inr h)) hFI)
  ⟨by rw [<-hca.len,bX],fun i c v q1 q2=>((hca.at' i (c.aV (sig ids s.o.length)) v (by rw [bG,q1];rfl) q2).y9 (f:=sig ids s.o.length) (n:=ids.length) fz0 hdr0 c (bO hcaps q1) rfl).keep hFI⟩
  (fun b hb=>by rw [hX];exact hb) (fun b h=>by rw [hX] at h;exact h) (fun b hlt hd=>hd.elim .inr (fun h=>h.elim .inl (fun h=>by omega))) (fun b h=>(hcore.st b h).2.2) ⟨i0,D1,nu,hat0,h0,hcore⟩
 refine ⟨l,mk,w1,{ target:= .fn (.func gf) ca,args:= #[.func (.yield l) #[] #[]] },w1,gf, #[.func (.yield l) #[] #[]]++ca,w1,hent, ?_,fun f' _=>trivial, ?_,fun h=>by simp, ?_⟩
 ·simp only [resolve,hgv'];simp [go_sem]
 ·simp [invoke,go_sem,gR hseq.1]
 ·refine jL (hcalls.mono fun e w3 he=> ?_);obtain ⟨⟨v,rfl⟩,X',T',he⟩:=he
  rcases he with ⟨k,D3,nu3,h1,hok,h3⟩|⟨e,D3,nu3,o3,y3,h1,h2,h3⟩
  ·obtain ⟨k1,k2⟩:=h3.done hZr' hl' { q with state:= .exhausted };have hend:=run_endLoop (P:=P) h3.kY (by rw [hq.1];simp);rw [hq.2.1] at hend;rw [show ({ q with state:= .exhausted }:Loop)={ q with state:= .exhausted } from rfl] at k1
   have k0:({ q with state:= .exhausted,pending:=none }:Loop)={ q with state:= .exhausted }:=by
    obtain ⟨e1,e2,_⟩:=hq;cases q;simp only at e2;subst e2;rfl
   refine ⟨none,_,hend, ?_⟩
   first
    | exact hR .normal _ (fun b=>Z1 b∧ ¬X b) ⟨t0,O k,Y k⟩ _ _ nu3 k1 k2 (hfin k h1 hok)
    | (rw [<-k0] at k1 k2;exact hR .normal _ (fun b=>Z1 b∧ ¬X b) ⟨t0,O k,Y k⟩ _ _ nu3 k1 k2 (hfin k h1 hok))
  ·refine ⟨some e.code,_,run_endLoop (P:=P) h3.kY (by simp), ?_⟩;obtain ⟨k1,k2⟩:=h3.done hZr' hl' { ({ q with state:= .done,pending:=some e.code }:Loop) with state:= .exhausted };have hh:=hR e _ (fun b=>Z1 b∧ ¬X b) ⟨t0,o3,y3⟩ _ _ nu3 k1 k2 h2
   cases e with
   | normal=>exact absurd rfl h1
   | exit i=>exact wpIn_exit hh
   | goto i=>exact wpIn_goto hh
   | ret=>exact wpIn_ret hh
theorem qP {n0:Nat} {s:AS} {Q:aR->AS->Prop} {g:Operand} {ps:Array Tmp} {assign body:Code} {gf:FuncId} {caps0:List AV} {oI:List (Option aa)} {L:List (List AV)} (hseq:oC P gf caps0 oI L) (ids:List Nat) (hnd:ids.Nodup)
  (hids:ids.map (fun i=>s.o[i]?)=oI.map (fun x=>some (x.map (aa.aV (sig ids s.o.length))))) (hwo: ∀(k:Nat) ob,oI[k]? = some (some ob)->bZ ids.length ob.rows=true) (O:Nat->List (Option aa)) (Y:Nat->iW) (ok:Nat->Prop) (h0:ok 0) (t0:List AV)
  (hg:s.ev g = .fn gf [] (bw (sig ids s.o.length) caps0)) (hcaps:bp ids.length caps0=true) (hdead: ∀i,i∈ids-> ∀ob,(O 0)[i]? ≠ some (some ob)) (hwk:Wk n0 s ⟨t0,O 0,Y 0⟩) (hA:bq assign=true) (hB:bq body=true) (har: ∀x,x∈L->x.length=ps.size)
  (hround: ∀k x,ok k->L[k]? = some x->bS P (O 0).length assign ⟨eH ps.toList x t0,O k,Y k⟩ (jB P (O 0).length body (ki (O 0).length t0 (ok (k+1)) (O (k+1)) (Y (k+1)) Q)))
  (hfin:ok L.length->Q .normal ⟨t0,O L.length,Y L.length⟩):bS P n0 (.rangeFunc g ps assign body) s Q:=by
 have key: ∀(k:Nat) x rest,L.drop k=x :: rest->L[k]? = some x∧L.drop (k+1)=rest∧k<L.length:=fun k x rest h=>by
  have hlt:k<L.length:=by
   rcases U6 k L.length with q|q
   ·exact q
   ·rw [List.drop_eq_nil_of_le q] at h;cases h
  rw [List.drop_eq_getElem_cons hlt] at h;obtain ⟨h1,h2⟩:=List.cons.inj h;exact ⟨by rw [<-h1];exact Vi hlt,h2,hlt⟩
 refine qO (c:=false) ⟨hseq.1,fun l pr _=>hseq.2 l pr⟩ (fun (k:Nat) rest=>L.drop k=rest∧k<=L.length) (fun k _=>k+1) 0 ⟨rfl,Nat.zero_le _⟩ (fun k x rest h=>⟨(key k x rest h.1).2.1,(key k x rest h.1).2.2⟩) (fun h=>by cases h) ids hnd hids hwo O Y ok h0 t0 hg hcaps hdead hwk hA hB (fun k x rest h=>har x (VD (key k x rest h.1).1)) (fun k x rest hok h=>hround k x hok (key k x rest h.1).1) (fun k h hok=> ?_)
 have hk:k=L.length:=by
  have:=List.drop_eq_nil_iff.1 h.1
  have:=h.2
  omega
 subst hk;exact hfin hok
theorem zQ {n0:Nat} {s:AS} {Q:aR->AS->Prop} {g:Operand} {ps:Array Tmp} {assign body:Code} {gf:FuncId} {caps:List AV} {L:List (List AV)} (hseq:zD true P gf caps [] L) (O:List (List AV)->List (Option aa)) (ok:List (List AV)->Prop) (h0:ok []) (t0:List AV)
  (hg:s.ev g = .fn gf [] caps) (hcaps:bp 0 caps=true) (hwk:Wk n0 s ⟨t0,O [],s.y⟩) (hA:bq assign=true) (hB:bq body=true) (har: ∀x,x∈L->x.length=ps.size)
  (hround: ∀vis x rest,ok vis->(vis++x :: rest).Perm L->bS P (O []).length assign ⟨eH ps.toList x t0,O vis,s.y⟩ (jB P (O []).length body (ki (O []).length t0 (ok (vis++[x])) (O (vis++[x])) s.y Q)))
  (hfin: ∀vis,vis.Perm L->ok vis->Q .normal ⟨t0,O vis,s.y⟩):bS P n0 (.rangeFunc g ps assign body) s Q:=
 qO (c:=true) hseq (fun vis rest=>(vis++rest).Perm L) (fun vis x=>vis++[x]) [] (.refl _) (fun k x rest h=>by simpa using h) (fun _ k rest rest' hp h=>(hp.symm.append_left k).trans h) [] V6 rfl (fun k ob h=>by simp at h) O (fun _=>s.y) ok h0 t0 (by rw [cn _ _ hcaps];exact hg) hcaps (fun i h=>by simp at h) hwk hA hB
  (fun k x rest h=>har x (h.mem_iff.1 (List.mem_append_right _ List.mem_cons_self))) hround (fun k h hok=>hfin k (by simpa using h) hok)
theorem DK {n0:Nat} {s:AS} {Q:aR->AS->Prop} {g:Operand} {ps:Array Tmp} {assign body:Code} {gf:FuncId} {caps:List AV} {L:List (List AV)} (hseq:oC P gf caps [] L) (O:Nat->List (Option aa)) (Y:Nat->iW) (ok:Nat->Prop) (h0:ok 0) (t0:List AV)
  (hg:s.ev g = .fn gf [] caps) (hcaps:bp 0 caps=true) (hwk:Wk n0 s ⟨t0,O 0,Y 0⟩) (hA:bq assign=true) (hB:bq body=true) (har: ∀x,x∈L->x.length=ps.size)
  (hround: ∀k x,ok k->L[k]? = some x->bS P (O 0).length assign ⟨eH ps.toList x t0,O k,Y k⟩ (jB P (O 0).length body (ki (O 0).length t0 (ok (k+1)) (O (k+1)) (Y (k+1)) Q)))
  (hfin:ok L.length->Q .normal ⟨t0,O L.length,Y L.length⟩):bS P n0 (.rangeFunc g ps assign body) s Q:=
 qP hseq [] V6 rfl (fun k ob h=>by simp at h) O Y ok h0 t0 (by rw [cn _ _ hcaps];exact hg) hcaps (fun i h=>by simp at h) hwk hA hB har hround hfin
theorem Da (P:Program) (rs:List ResultVar) (l:Nat) (s:AS):Fi P rs l .ret s=lV (kG P s rs) s.o (fun _ _=>s.y = .run l []∨s.y = .off):=rfl
theorem uS (P:Program) (rs:List ResultVar) (l:Nat) (s:AS):Fi P rs l .normal s=lV (kG P s rs) s.o (fun _ _=>s.y = .run l []∨s.y = .off):=rfl
theorem zs (N:Nat) (t0:List AV) (p:Prop) (o':List (Option aa)) (y':iW) (Q:aR->AS->Prop) (i:Nat) (s:AS):ki N t0 p o' y' Q (.exit i) s=Q (.exit i) ⟨t0,s.o,s.y⟩:=rfl
theorem zt (N:Nat) (t0:List AV) (p:Prop) (o':List (Option aa)) (y':iW) (Q:aR->AS->Prop) (i:Nat) (s:AS):ki N t0 p o' y' Q (.goto i) s=Q (.goto i) ⟨t0,s.o,s.y⟩:=rfl
theorem C9 (N:Nat) (t0:List AV) (p:Prop) (o':List (Option aa)) (y':iW) (Q:aR->AS->Prop) (s:AS):ki N t0 p o' y' Q .ret s=Q .ret ⟨t0,s.o,s.y⟩:=rfl
theorem uR (N:Nat) (t0:List AV) (p:Prop) (o':List (Option aa)) (y':iW) (Q:aR->AS->Prop) (s:AS):ki N t0 p o' y' Q .normal s=(p∧Wk N ⟨t0,s.o,s.y⟩ ⟨t0,o',y'⟩):=rfl
theorem sT (P:Program) (N:Nat) (body:Code) (R:aR->AS->Prop) (s:AS):jB P N body R .normal s=bS P N body s R:=rfl
attribute [go_sem] Da uS zs zt C9 uR sT eH
theorem oN {n0:Nat} {Q:aR->AS->Prop} {ι:Type} {c:Code} {t:List AV} {o:List (Option aa)} {y:iW} (m:Nat) (upd:ι->List (Nat×AV)) (ob:ι->List (Option aa)) (yy:ι->iW) (mu:ι->Nat) (ok:ι->Prop) (i0:ι) (h3:ok i0) (h2:Wk n0 ⟨t,o,y⟩ ⟨ke (cf m t) (upd i0),ob i0,yy i0⟩)
  (h: ∀i,ok i-> ∀K:AS->Prop,(∀s2,aJ n0 (fun i=>⟨ke (cf m t) (upd i),ob i,yy i⟩) mu ok (mu i) s2->K s2)->bS P n0 c ⟨ke (cf m t) (upd i),ob i,yy i⟩ (lW K Q)):bS P n0 (.loop c) ⟨t,o,y⟩ Q:=
 kK (fun i=>⟨ke (cf m t) (upd i),ob i,yy i⟩) mu ok i0 _ .refl h2 h3 h
end
end
section
section
variable {P:Program}
theorem mz {n0:Nat} {Q:aR->AS->Prop} {t:List AV} {o:List (Option aa)} {y:iW} {g:Operand} {ps:Array Tmp} {assign body:Code} {gf:FuncId} {caps:List AV} {L:List (List AV)} (hseq:oC P gf caps [] L) (m:Nat) (O:Nat->List (Option aa)) (ok:Nat->Prop) (h0:ok 0)
  (hg:(AS.mk t o y).ev g = .fn gf [] caps) (hcaps:bp 0 caps=true) (hwk:Wk n0 ⟨t,o,y⟩ ⟨cf m t,O 0,y⟩) (hA:bq assign=true) (hB:bq body=true) (har: ∀x,x∈L->x.length=ps.size)
  (hround: ∀k x,ok k->L[k]? = some x->bS P (O 0).length assign ⟨eH ps.toList x (cf m t),O k,y⟩ (jB P (O 0).length body (ki (O 0).length (cf m t) (ok (k+1)) (O (k+1)) y Q)))
  (hfin:ok L.length->Q .normal ⟨cf m t,O L.length,y⟩):bS P n0 (.rangeFunc g ps assign body) ⟨t,o,y⟩ Q:=
 DK hseq O (fun _=>y) ok h0 (cf m t) hg hcaps hwk hA hB har hround hfin
def w8 (s s':AS):Prop:= ∀(f:Fr) (D:Nat->Prop) (nu:Nat->Nat->Value) (a:Act) (w:World),RS f D nu s a w-> ∃nu',bt nu s.o w nu' s'.o w∧s'.y=s.y∧RS f D nu' s' a w
theorem oL {n0:Nat} {s s':AS} {c:Code} {Q:aR->AS->Prop} (ht:w8 s s') (hok:bq c=true) (h:bS P n0 c s' Q):zw P n0 c s Q:=fun f m D nu a w hZr hn hm hs hmx R hO hR=>by
 obtain ⟨nu',h1,hy,h2⟩:=ht f D nu a w hs;exact fl hmx m hZr hn c hok s' a w D nu' f.Z Q R hO (by rw [hy];exact m.own hm hs.ro h1 h2.ro) h2 h hR
theorem bU {n0 id:Nat} {s s':AS} {ops:Array Oper} {d:Bool} {Q:aR->AS->Prop} (ht:w8 s s') (hok:dy ops=true) (h:bS P n0 (.region id ops d) s' Q):bS P n0 (.region id ops d) s Q:=by
 have:=oL (P:=P) (n0:=n0) (c:= .region id ops d) (Q:=Q) ht hok h
 cases d
 ·exact .inr this
 ·exact .inr this
theorem ab.Ff {f:FuncId} {args args':List AV} {o:List (Option aa)} {r:AV} {K:AV->List (Option aa)->Prop} (h:ah P f args' r) (n:Nat) {p:Prop} (hz:fj o n args=some (p,args')) (hp:p) (hf:r.flat=true) (k:K r o):ab P f args o K:=by
 refine .inr (.inr ⟨h.2.1,fun D nu w vargs hro hra=> ?_⟩);obtain ⟨hl,hall⟩:=(jj hro n).2 _ _ _ hz hp
 have hra':fE (BF D nu [] w) nu [] w args' vargs:=⟨by rw [<-hl];exact hra.len,fun i c x q1 q2=>by
  have hi:i<args.length:=by rw [hl];exact (U4.1 q1).1
  exact (hall i _ c x (Vi hi) q1 (hra.at' i _ x (Vi hi) q2)).mono (.refl _ _ _) (fun b _ hb=>fun hlt=>⟨hlt,bd _ _,hb⟩)⟩
 refine (h.2.2 (fun _=>True) nu w vargs (.nil _ _ _ (fun _ _=>trivial) (hro.gl.nil (fun _ _ _=>trivial))) ⟨hra'.len,fun i c x q1 q2=>(hra'.at' i c x q1 q2).mono (.refl _ _ _) (fun _ _ _=>trivial)⟩).mono ?_;rintro e w' ⟨v,nu',o',r',rfl,hm,_,hx,rfl,rfl⟩;have hb:=fu hm;exact ⟨_,nu,o,_,rfl,aw hb,hro.below hb,hx.flat hf,k⟩
end
attribute [go_sem] List.zip_cons_cons List.zip_nil_left List.zip_nil_right
end
section
section
variable {P:Program} {ops:Array Oper}
def Hq (ops:Array Oper) (m i j:Nat):Bool:=
 match ops[i]?,ops[j]? with
 | some oi,some oj=>(decide (m<=j)||aG ops j i||oi.apart ops oj) && !aG ops i j&&(match oi.dst with|some d=>oj.dst !=some d|none=>true)&&(decide (m<=j)||match oj.dst with|some d=> !(oi.looksAt ops).contains d|none=>true)
 | _,_=>true
def gI (ops:Array Oper) (m:Nat):Bool:=
 Region.noSelect ops&&decide (m<ops.size)&&(List.range ops.size).all (fun j=>(List.range j).all (fun i=>Hq ops m i j)&&(!aG ops j j&&Ak ops j)) &&
 (List.range ops.size).all (fun t=>decide (t<m)||(List.range t).all (fun i=>(List.range (t+1)).any (fun i'=>decide (i<i')&&aG ops i' i)))
def lX (st:Nat->(Act->World->Prop)->Act->World->Prop) (ops:Array Oper) (E:Act->World->Prop):Nat->Array Bool->Act->World->Prop
 | 0,listed,a,w=>Region.ready .any ops listed=[]∧E a w
 | fuel+1,listed,a,w=>(Region.ready .any ops listed=[]->E a w)∧ ∀i∈Region.ready .any ops listed,st i (lX st ops E fuel (listed.setIfInBounds i true)) a w
def nU (st:Nat->(Act->World->Prop)->Act->World->Prop) (E:Act->World->Prop):List Nat->Act->World->Prop
 | []=>E
 | i :: r=>st i (nU st E r)
structure Jl (P:Program) (ops:Array Oper) (st:Nat->(Act->World->Prop)->Act->World->Prop):Prop where
 mono: ∀ {i:Nat} {K K':Act->World->Prop} {a:Act} {w:World},(∀a w,K a w->K' a w)->st i K a w->st i K' a w
 of: ∀ {i:Nat} {o:Oper} {S:Spec} {K:Act->World->Prop} {a:Act} {w:World},ops[i]? = some o->kj P ops S o a w->(∀v w2,S.p v w2->Below w.heap.size w w2->K (a.put o.dst v) w2)->st i K a w
theorem CY {Q:Exit->Act->World->Prop}: ∀(fuel:Nat) (listed:Array Bool) (a:Act) (w:World),lX (wpOp P ops Q) ops (Q .normal) fuel listed a w->wpAny P .any ops Q fuel listed a w
 | 0,_,_,_,h=>h
 | fuel+1,_,_,_,h=>⟨h.1,fun i hi=>wpOp_mono (fun _ _=>CY fuel _ _ _) (h.2 i hi)⟩
theorem C6 {Q:Exit->Act->World->Prop}: ∀l:List Nat,wpOps P ops Q l=nU (wpOp P ops Q) (Q .normal) l
 | []=>by funext a w;simp [wpOps,nU]
 | i :: l=>by funext a w;rw [wpOps_cons,C6 l];rfl
theorem Lb (Q:Exit->Act->World->Prop):Jl P ops (wpOp P ops Q):=⟨fun h k=>wpOp_mono h k,fun {i o S K a w} hi h next=>by
 unfold wpOp;simp only [hi]
 rcases h with ⟨h1,h2⟩|⟨h1,h2⟩
 ·rw [if_pos h1];refine .inl ?_;unfold Oper.wp;generalize (execOp a.eval o).run P w=r at h2
  cases r with
  | halt _ _=>exact h2.elim
  | ok n w'=>
   cases n<;>first|exact h2.elim|skip
   case value u=>exact next _ _ h2.1 h2.2
   case skip=>exact next _ _ h2.1 h2.2
   case enter f args=>
    refine Calls.mono h2 fun e w'' he=> ?_;obtain ⟨v,rfl,hv,hb⟩:=he
    exact next _ _ hv hb
 ·rw [if_neg (by rw [h1];decide)]
  exact next _ _ h2 (Below.refl _ _)⟩
def y0 (P:Program) (ops:Array Oper) (Q:Exit->Act->World->Prop) (k:Nat):Act->World->Prop:=wpOps P ops Q (List.range' k (ops.size - k))
def lQ (P:Program) (ops:Array Oper) (L:List Spec) (w0:World) (T:Nat->Act->World->Prop):List Oper->Nat->((Nat->Value)->Act)->Prop
 | [],k,A=> ∀x w,Below w0.heap.size w0 w->(∀i,i<k->(at' L i).p (x i) w)->T k (A x) w
 | o :: l,k,A=>(∀x w,Below w0.heap.size w0 w->(∀i,aG ops k i=true->(at' L i).p (x i) w)->kj P ops (at' L k) o (A x) w)∧lQ P ops L w0 T l (k+1) (fun x=>(A x).put o.dst (x k))
def NS (b:Bool) (n:Nat) (S:Spec):Spec:=⟨fun v w=>S.p v w∧(b=true-> ∀k,dc v=some k->n<=k),fun v w w' hb h=>⟨S.st v w w' hb h.1,h.2⟩⟩
def nS (P:Program) (ops:Array Oper) (L:List Spec) (fr:Nat->Bool) (w0:World) (T:Nat->Act->World->Prop):List Oper->Nat->((Nat->Value)->Act)->Prop
 | [],k,A=> ∀x w,Below w0.heap.size w0 w->(∀i,i<k->(at' L i).p (x i) w)->(∀i j,i<k->j<k->i≠j->fr i=true->fr j=true-> ∀b,dc (x i)=some b->dc (x j)≠some b)->T k (A x) w
 | o :: l,k,A=>(∀x w,Below w0.heap.size w0 w->(∀i,aG ops k i=true->(at' L i).p (x i) w)->(∀i j,aG ops k i=true->aG ops k j=true->i≠j->fr i=true->fr j=true-> ∀b,dc (x i)=some b->dc (x j)≠some b)->kj P ops (NS (fr k) w.heap.size (at' L k)) o (A x) w)∧nS P ops L fr w0 T l (k+1) (fun x=>(A x).put o.dst (x k))
theorem kj.NS {S:Spec} {o:Oper} {a:Act} {w:World} {n:Nat} (h:kj P ops S o a w):kj P ops (NS false n S) o a w:=by
 rcases h with ⟨h1,h2⟩|⟨h1,h2⟩
 ·refine .inl ⟨h1, ?_⟩
  revert h2
  generalize (execOp a.eval o).run P w=r;intro h2
  cases r with
  | halt _ _=>exact h2.elim
  | ok n w'=>
   cases n<;>first|exact h2.elim|skip
   case value u=>exact ⟨⟨h2.1,fun h=>by cases h⟩,h2.2⟩
   case skip=>exact ⟨⟨h2.1,fun h=>by cases h⟩,h2.2⟩
   case enter f args=>
    refine Calls.mono h2 fun e w'' he=> ?_;obtain ⟨v,rfl,hv,hb⟩:=he;exact ⟨v,rfl,⟨hv,fun h=>by cases h⟩,hb⟩
 ·exact .inr ⟨h1,h2,fun h=>by cases h⟩
theorem j7 {L:List Spec} {w0:World} {T:Nat->Act->World->Prop}: ∀(l:List Oper) (k:Nat) (A:(Nat->Value)->Act),lQ P ops L w0 T l k A->nS P ops L (fun _=>false) w0 T l k A
 | [],k,A,h=>fun x w h1 h2 _=>h x w h1 h2
 | o :: l,k,A,h=>⟨fun x w h1 h2 _=>(h.1 x w h1 h2).NS,j7 l (k+1) _ h.2⟩
theorem pR {l:List Oper} {L:List Spec} {fr:Nat->Bool} {w0:World} {T:Nat->Act->World->Prop} {a0:Act} (hA:kC l) {m0:Nat} (hm:m0<=l.length): ∀(l':List Oper) (k:Nat) (A:(Nat->Value)->Act),(l.take m0).drop k=l'->k<=m0->(A=fun x=>cX (fun i=>decide (i<k)) x l 0 a0) ->
  nS P l.toArray L fr w0 T l' k A->(∀j o,k<=j->j<m0->l[j]? = some o-> ∀x w,Below w0.heap.size w0 w->(∀i,aG l.toArray j i=true->(at' L i).p (x i) w)->(∀i i',aG l.toArray j i=true->aG l.toArray j i'=true->i≠i'->fr i=true->fr i'=true-> ∀b,dc (x i)=some b->dc (x i')≠some b)->kj P l.toArray (NS (fr j) w.heap.size (at' L j)) o (cX (fun i=>decide (i<j)) x l 0 a0) w)∧ ∀x w,Below w0.heap.size w0 w->(∀i,i<m0->(at' L i).p (x i) w)->(∀i j,i<m0->j<m0->i≠j->fr i=true->fr j=true-> ∀b,dc (x i)=some b->dc (x j)≠some b)->T m0 (cX (fun i=>decide (i<m0)) x l 0 a0) w
 | [],k,A,hl,hk,hAx,h=>by
  have h1:k=m0:=by have:=congrArg List.length hl;simp at this;omega
  subst h1;subst hAx;refine ⟨fun j o h1 h2=>by omega,fun x w h1 h2 h3=> ?_⟩
  have:=h x w h1 h2 h3
  simpa using this
 | o :: l',k,A,hl,hk,hAx,h=>by
  have h1:k<m0:=by have:=congrArg List.length hl;simp at this;omega
  have h2:l[k]? = some o:=by
   have:=congrArg (fun m=>m[0]?) hl
   simp only [List.getElem?_drop,Nat.add_zero,V7] at this
   rwa [Vx h1] at this
  subst hAx
  have hrec:=pR hA hm l' (k+1) _ (by have:=congrArg List.tail hl;simpa using this) h1 (by
   funext x
   have hi:=iT (s:=fun i=>decide (i<k)) (x:=x) (v:=x k) l 0 k a0 hA h2 (by simp);rw [Nat.zero_add] at hi;rw [<-hi];refine bE l 0 a0 (fun i _ _=> ?_)
   by_cases hik:i=k
   ·subst hik;simp [bR,gG]
   ·have:(i<k+1)=(i<k):=by apply propext;omega
    simp [bR,gG,hik,this]) h.2
  refine ⟨fun j o' hj hjm ho=> ?_,hrec.2⟩
  by_cases hjk:j=k
  ·subst hjk;rw [h2] at ho;cases ho;exact h.1
  ·exact hrec.1 j o' (by omega) hjm ho
theorem y8 {s:Nat->Bool}: ∀n m,m<=n->(∀i,m<=i->i<n->s i=false)->n - m<=y7 s n
 | 0,m,_,_=>by omega
 | n+1,m,h,hs=>by
  rcases U6 n m with q|q
  ·omega
  ·have:=y8 (s:=s) n m q (fun i h1 h2=>hs i h1 (by omega))
   rw [y7,hs n q (by omega)];simp;omega
theorem IH {l:List Oper} {m0:Nat} {st:Nat->(Act->World->Prop)->Act->World->Prop} {E:Act->World->Prop} (hst:Jl P l.toArray st) (hnext: ∀t,m0<=t->t<l.length-> ∀i,i<t-> ∃i',i'<=t∧i<i'∧aG l.toArray i' i=true)
  (hback: ∀i j oi oj,i<j->l[i]? = some oi->l[j]? = some oj->aG l.toArray i j=false) (hself: ∀j,j<l.length->aG l.toArray j j=false) (hfar: ∀(j:Nat) (o:Oper),l[j]? = some o-> ∀e∈o.after,e.on<l.length) :
  ∀(fuel k:Nat) (listed:Array Bool) (a:Act) (w:World),listed.size=l.length->m0<=k->k<=l.length->(∀i,listed.getD i false=decide (i<k))->l.length - k<=fuel ->
   nU st E (List.range' k (l.length - k)) a w->lX st l.toArray E fuel listed a w:=by
 intro fuel
 induction fuel with
 | zero=>
  intro k listed a w hsz hm hk hl hf h
  have e:k=l.length:=by omega
  subst e;rw [V8] at h;refine ⟨?_,by simpa [nU] using h⟩;refine List.eq_nil_iff_forall_not_mem.2 (fun i hi=> ?_);obtain ⟨g1,o,g2, -⟩:=mem_ready.1 hi;have hil:i<l.length:=(U4.1 (show l[i]? = some o by simpa using g2)).1
  have his:i<listed.size:=by omega
  have g3:=hl i
  rw [show listed.getD i false=false by
   simp only [VV,Vh his,Option.getD_some] at g1 ⊢; exact g1] at g3
  simp [hil] at g3
 | succ fuel ih=>
  intro k listed a w hsz hm hk hl hf h
  have hread: ∀j,j∈Region.ready .any l.toArray listed->j=k∧k<l.length:=by
   intro j hj;obtain ⟨g1,o,g2,g3⟩:=mem_ready.1 hj
   have hoj:l[j]? = some o:=by simpa using g2
   have hjl:j<l.length:=(U4.1 hoj).1
   have his:j<listed.size:=by omega
   have g4:=hl j
   rw [show listed.getD j false=false by
    simp only [VV,Vh his,Option.getD_some] at g1 ⊢; exact g1] at g4
   have hkj:k<=j:=by
    rcases U6 j k with q|q
    ·simp [q] at g4
    ·exact q
   rcases Nat.eq_or_lt_of_le hkj with e|hlt
   ·exact ⟨e.symm,by omega⟩
   ·exfalso
    have hd: ∀i,aG l.toArray j i=true->listed.getD i false=true:=by
     intro i hi;simp only [aG,g2,VS,beq_iff_eq,V9] at hi;obtain ⟨e,he,hb,rfl⟩:=hi;exact g3 e he hb
    have hsome: ∀n i,i+n+1=j->k<=i->False:=by
     intro n
     induction n using Nat.strongRecOn with
     | _ n ihn=>
      intro i hi hki;obtain ⟨i',q1,q2,q3⟩:=hnext j (by omega) hjl i (by omega)
      by_cases hi':i'=j
      ·subst hi'
       have:=hd i q3
       rw [hl i] at this;simp at this;omega
      ·exact ihn (j - 1 - i') (by omega) i' (by omega) (by omega)
    exact hsome (j - k - 1) k (by omega) (UZ _)
  refine ⟨fun h0=> ?_,fun j hj=> ?_⟩
  ·rcases U6 k l.length with q|q
   ·exfalso
    have hmem:k∈Region.ready .any l.toArray listed:=by
     refine mem_ready.2 ⟨?_,l[k],by simp [q],fun e he hb=> ?_⟩
     ·have hms:k<listed.size:=by omega
      have:=hl k
      simp [hms] at this ⊢; exact this
     ·have hd:aG l.toArray k e.on=true:=by
       have:l.toArray[k]? = some l[k]:=by simp [q]
       simp only [aG,this];simp only [V9,VS,beq_iff_eq];exact ⟨e,he,hb,rfl⟩
      rcases Wa e.on k with h'|h'|h'
      ·rw [hl];simpa using h'
      ·rw [h',hself k q] at hd;cases hd
      ·by_cases hl':e.on<l.length
       ·have:=hback k e.on l[k] l[e.on] h' (by simp [q]) (by simp [hl'])
        rw [hd] at this;cases this
       ·exact absurd (hfar k l[k] (by simp [q]) e he) hl'
    rw [h0] at hmem;cases hmem
   ·have e:k=l.length:=by omega
    subst e;rw [V8] at h;simpa [nU] using h
  ·obtain ⟨rfl,hlt⟩:=hread j hj
   have e:l.length - j=(l.length - (j+1))+1:=by omega
   rw [e,Wb] at h;simp only [nU] at h;refine hst.mono (fun a' w' h'=>ih (j+1) _ a' w' (by simpa using hsz) (by omega) hlt (fun i=> ?_) (by omega) h') h
   by_cases hij:i=j
   ·subst hij
    have:i<listed.size:=by omega
    simp [this]
   ·rw [show (listed.setIfInBounds j true).getD i false=listed.getD i false from getD_set_ne false (Ne.symm hij),hl i]
    have:(i<j+1)=(i<j):=by apply propext;omega
    simp [this]
theorem fM {st:Nat->(Act->World->Prop)->Act->World->Prop} {E:Act->World->Prop} {a:Act} {w:World} {l:List Oper} (L:List Spec) (fr:Nat->Bool) (hfr: ∀i v w,fr i=true->(at' L i).p v w-> ∀b,dc v=some b->b<w.heap.size) (m0:Nat) (hst:Jl P l.toArray st) (hB:gI l.toArray m0=true)
  (h:nS P l.toArray L fr w.drew (fun k=>nU st E (List.range' k (l.length - k))) (l.take m0) 0 (fun _=>a)):lX st l.toArray E l.toArray.size (Array.replicate l.toArray.size false) a w.drew:=by
 simp only [gI,VS,Wc,Wd,Vs,decide_eq_true_eq] at hB;obtain ⟨⟨⟨hns,hm0⟩,hall⟩,htail⟩:=hB;have hsel:=Region.noSelect_spec hns
 have hpair: ∀i j oi oj,i<j->l[i]? = some oi->l[j]? = some oj->(j<m0->aG l.toArray j i=true∨oi.apart l.toArray oj=true)∧aG l.toArray i j=false∧(∀e,oi.dst=some e->oj.dst≠some e)∧(j<m0-> ∀e,oj.dst=some e->e∉oi.looksAt l.toArray):=by
  intro i j oi oj hij hi hj;have hjn:=(U4.1 hj).1
  have:=(hall j hjn).1 i hij
  simp only [Hq,Vk,hi,hj,VS,We,Bool.not_eq_true',decide_eq_true_eq] at this
  refine ⟨fun hlt=> ?_,this.1.1.2,fun e he=> ?_,fun hlt e he=> ?_⟩
  ·rcases this.1.1.1 with (h|h)|h
   ·omega
   ·exact .inl h
   ·exact .inr h
  ·have h3:=this.1.2;rw [he] at h3;simpa using h3
  ·have h3:=this.2;rw [he] at h3
   rcases h3 with h3|h3
   ·omega
   ·simpa using h3
 have hself: ∀j,j<l.length->aG l.toArray j j=false:=fun j hj=>by simpa using (hall j hj).2.1
 have hfar: ∀(j:Nat) (o:Oper),l[j]? = some o-> ∀e∈o.after,e.on<l.length:=fun j o hj e he=>by
  have:=(hall j (U4.1 hj).1).2.2
  simp only [Ak,Vk,hj,VU] at this;simpa using this e he
 have hnext: ∀t,m0<=t->t<l.length-> ∀i,i<t-> ∃i',i'<=t∧i<i'∧aG l.toArray i' i=true:=fun t ht htl i hit=>by
  have:=htail t htl
  simp only [We,decide_eq_true_eq,Wc,List.any_eq_true,Wd,VS] at this
  rcases this with h|h
  ·omega
  ·obtain ⟨i',h1,h2,h3⟩:=h i hit;exact ⟨i',by omega,h2,h3⟩
 have hA:kC l:=fun i j oi oj hi hj hij e he=>by
  rcases Nat.lt_or_gt_of_ne hij with h|h
  ·exact (hpair i j oi oj h hi hj).2.2.1 e he
  ·intro h2;exact (hpair j i oj oi h hj hi).2.2.1 e h2 he
 have hO:=pR (P:=P) (L:=L) (fr:=fr) (w0:=w.drew) (T:=fun k=>nU st E (List.range' k (l.length - k))) (a0:=a) hA (m0:=m0) (by omega) (l.take m0) 0 (fun _=>a) (by simp) (Va _) (by
  funext x
  exact (show a=cX (fun _=>false) x l 0 a from by
   have: ∀(l:List Oper) k,a=cX (fun _=>false) x l k a:=by
    intro l
    induction l with
    | nil=>intro k;rfl
    | cons o l ih=>intro k;rw [cX];exact ih (k+1)
   exact this l 0).trans (bE l 0 a (fun i _ _=>by simp))) h
 
 have hloose: ∀i j oi oj,i<m0->j<m0->l[i]? = some oi->l[j]? = some oj->i≠j->aG l.toArray j i=false-> ∀d,oi.dst=some d->d∉oj.looksAt l.toArray:=by
  intro i j oi oj him hjm hi hj hij hd
  rcases Nat.lt_or_gt_of_ne hij with h|h
  ·rcases (hpair i j oi oj h hi hj).1 hjm with h1|h1
   ·rw [hd] at h1;cases h1
   ·exact (Oper.apart_spec h1).1
  ·exact (hpair j i oj oi h hj hi).2.2.2 him
 
 have hsee: ∀(s s':Nat->Bool) x j oj,(∀i,m0<=i->s i=false∧s' i=false)->j<m0->l[j]? = some oj->s j=false->s' j=false->(∀i,i<l.length->aG l.toArray j i=true->s i=true∧s' i=true) ->
   execOp (cX s x l 0 a).eval oj=execOp (cX s' x l 0 a).eval oj∧Region.wanted oj (yielded l.toArray (cX s x l 0 a).tmps)=Region.wanted oj (yielded l.toArray (cX s' x l 0 a).tmps):=by
  intro s s' x j oj hst hjm hj h1 h2 hd
  have one:=fun (s:Nat->Bool) (hs0: ∀i,m0<=i->s i=false) (hs:s j=false)=>pk (ops:=l.toArray) (s:=s) (keep:=aG l.toArray j) (x:=x) (a:=a) hA (fun cs b=>hsel j oj cs b (by simpa using hj))
   (fun i oi hi hsi hk=>hloose i j oi oj (by rcases U6 i m0 with q|q;exact q;rw [hs0 i q] at hsi;cases hsi) hjm hi hj (by intro e;subst e;rw [hsi] at hs;cases hs) hk)
  obtain ⟨a1,a2⟩:=one s (fun i hi=>(hst i hi).1) h1;obtain ⟨b1,b2⟩:=one s' (fun i hi=>(hst i hi).2) h2
  have e:cX (fun i=>s i&&aG l.toArray j i) x l 0 a=cX (fun i=>s' i&&aG l.toArray j i) x l 0 a:=bE l 0 a (fun i _ hi=>by
   refine ⟨?_,fun _=>rfl⟩
   cases hk:aG l.toArray j i
   ·simp
   ·obtain ⟨c1,c2⟩:=hd i (by omega) hk
    simp [c1,c2])
  exact ⟨by rw [a1,b1,e],by rw [a2,b2,e]⟩
 have main: ∀fuel (listed:Array Bool) x w1,listed.size=l.length->Below w.drew.heap.size w.drew w1->(∀i,listed.getD i false=true->(at' L i).p (x i) w1) ->
   (∀j i,listed.getD j false=true->aG l.toArray j i=true->listed.getD i false=true)->(∀i,m0<=i->listed.getD i false=false)->(∀i j,listed.getD i false=true->listed.getD j false=true->i≠j->fr i=true->fr j=true-> ∀b,dc (x i)=some b->dc (x j)≠some b)->y7 (fun i=>listed.getD i false) l.length<=fuel ->
   lX st l.toArray E fuel listed (cX (fun i=>listed.getD i false) x l 0 a) w1:=by
  intro fuel
  induction fuel with
  | zero=>
   intro listed x w1 _ _ _ _ hlast _ hu
   have:=wy (s:=fun i=>listed.getD i false) l.length (i:=m0) hm0 (hlast m0 (UZ _))
   omega
  | succ fuel ih=>
   intro listed x w1 hsz hE hF hcl hlast hpr hu
   have hmemR: ∀j,j∈Region.ready .any l.toArray listed-> ∃oj,l[j]? = some oj∧listed.getD j false=false∧ ∀i,aG l.toArray j i=true->listed.getD i false=true:=by
    intro j hj;obtain ⟨h1,o,ho,h3⟩:=mem_ready.1 hj
    refine ⟨o,by simpa using ho, ?_,fun i hi=> ?_⟩
    ·rcases U6 j listed.size with h'|h'
     ·simp [h'] at h1 ⊢; exact h1
     ·simp [Array.getElem?_eq_none h']
    ·simp only [aG,ho,VS,beq_iff_eq,V9] at hi;obtain ⟨e,he,hb,rfl⟩:=hi;exact h3 e he hb
   refine ⟨fun h0=> ?_,fun j hj=> ?_⟩
   ·
    exfalso
    have hex: ∃m,m<l.length∧listed.getD m false=false∧ ∀i,i<m->listed.getD i false=true:=by
     have: ∀k,k<=l.length->(∀i,i<k->listed.getD i false=true)∨ ∃m,m<l.length∧listed.getD m false=false∧ ∀i,i<m->listed.getD i false=true:=by
      intro k
      induction k with
      | zero=>exact fun _=> .inl (fun i hi=>by omega)
      | succ k ihk=>
       intro hk
       rcases ihk (by omega) with h|h
       ·cases hc:listed.getD k false
        ·exact .inr ⟨k,by omega,hc,h⟩
        ·exact .inl (fun i hi=>by
          by_cases e:i=k
          ·subst e;exact hc
          ·exact h i (by omega))
       ·exact .inr h
     rcases this l.length (UZ _) with h|h
     ·have:=h m0 hm0
      rw [hlast m0 (UZ _)] at this;cases this
     ·exact h
    obtain ⟨m,hm1,hm2,hm3⟩:=hex
    have hmem:m∈Region.ready .any l.toArray listed:=by
     refine mem_ready.2 ⟨?_,l[m],by simp [hm1],fun e he hb=> ?_⟩
     ·have hms:m<listed.size:=by omega
      simp [hms] at hm2 ⊢; exact hm2
     ·have hd:aG l.toArray m e.on=true:=by
       have:l.toArray[m]? = some l[m]:=by simp [hm1]
       simp only [aG,this];simp only [V9,VS,beq_iff_eq];exact ⟨e,he,hb,rfl⟩
      rcases Wa e.on m with h|h|h
      ·exact hm3 _ h
      ·rw [h,hself m hm1] at hd;cases hd
      ·by_cases hl:e.on<l.length
       ·have:=(hpair m e.on l[m] l[e.on] h (by simp [hm1]) (by simp [hl])).2.1
        rw [hd] at this;cases this
       ·exact absurd (hfar m l[m] (by simp [hm1]) e he) hl
    rw [h0] at hmem;cases hmem
   ·obtain ⟨oj,hoj,hun,hdeps⟩:=hmemR j hj;have hjl:=(U4.1 hoj).1
    have hsj:(listed.setIfInBounds j true).size=l.length:=by simpa using hsz
    have hgd: ∀i,(listed.setIfInBounds j true).getD i false=bR (fun i=>listed.getD i false) j i:=by
     intro i
     by_cases hij:i=j
     ·subst hij
      have:i<listed.size:=by omega
      simp [bR,this]
     ·simp only [bR,if_neg hij];exact getD_set_ne false (Ne.symm hij)
    have hup: ∀t,m0<=t->t<l.length->(∀i,aG l.toArray t i=true->listed.getD i false=true)-> ∀k i,i+k+1=t->listed.getD i false=true:=by
     intro t h1 h2 hdt k
     induction k using Nat.strongRecOn with
     | _ k ihk=>
      intro i hi;obtain ⟨i',q1,q2,q3⟩:=hnext t h1 h2 i (by omega)
      by_cases hi':i'=t
      ·subst hi';exact hdt i q3
      ·exact hcl i' i (ihk (t - 1 - i') (by omega) i' (by omega)) q3
    by_cases hjn:m0<=j
    ·
     have hj0:j=m0:=by
      rcases Nat.eq_or_lt_of_le hjn with e|hlt
      ·exact e.symm
      ·have:=hup j hjn hjl hdeps (j - m0 - 1) m0 (by omega)
       rw [hlast m0 (UZ _)] at this;cases this
     subst hj0;have hall': ∀i,i<j->listed.getD i false=true:=fun i hi=>hup j hjn hjl hdeps (j - i - 1) i (by omega);have h2:=hO.2 x w1 hE (fun i hi=>hF i (hall' i hi)) (fun i k hi hk=>hpr i k (hall' i hi) (hall' k hk))
     have e:cX (fun i=>decide (i<j)) x l 0 a=cX (fun i=>listed.getD i false) x l 0 a:=bE l 0 a (fun i _ hi=>by
      refine ⟨?_,fun _=>rfl⟩
      by_cases hij:i<j
      ·simp only [hij,decide_true];exact (hall' i hij).symm
      ·simp only [hij,decide_false];exact (hlast i (by omega)).symm)
     rw [e] at h2
     have hrun:=IH (P:=P) (st:=st) (E:=E) (l:=l) (m0:=j) hst (fun t h1 h2=>hnext t h1 h2) (fun i k oi ok hik h1 h2=>(hpair i k oi ok hik h1 h2).2.1) hself hfar (fuel+1) j listed _ w1 hsz (UZ _) (Wf hjl) (fun i=>by
      by_cases hij:i<j
      ·simp only [hij,decide_true];exact hall' i hij
      ·simp only [hij,decide_false];exact hlast i (by omega)) (by
      have:=y8 (s:=fun i=>listed.getD i false) l.length j (Wf hjl) (fun i h1 _=>hlast i h1)
      omega) h2
     exact hrun.2 j hj
    ·have hjm:j<m0:=by omega
     have hst2:=hO.1 j oj (Va _) hjm hoj x w1 hE (fun i hi=>hF i (hdeps i hi)) (fun i k hi hk=>hpr i k (hdeps i hi) (hdeps k hk))
     obtain ⟨c1,c2⟩:=hsee (fun i=>listed.getD i false) (fun i=>decide (i<j)) x j oj (fun i hi=>⟨hlast i hi,by simp;omega⟩) hjm hoj hun (by simp) (fun i hi hd=>⟨hdeps i hd,by
      rcases Wa i j with h|h|h
      ·simpa using h
      ·rw [h,hself j hjl] at hd;cases hd
      ·have:=(hpair j i oj l[i] h hoj (by simp [hi])).2.1
       rw [hd] at this;cases this⟩)
     have next: ∀v w2,(NS (fr j) w1.heap.size (at' L j)).p v w2->Below w1.heap.size w1 w2->lX st l.toArray E fuel (listed.setIfInBounds j true) ((cX (fun i=>listed.getD i false) x l 0 a).put oj.dst v) w2:=by
      intro v w2 hvf hb;obtain ⟨hv,hvn⟩:=hvf;have hi:=iT (s:=fun i=>listed.getD i false) (x:=x) (v:=v) l 0 j a hA hoj (by simpa using hun);rw [Nat.zero_add] at hi;rw [<-hi, <- show (fun i=>(listed.setIfInBounds j true).getD i false)=bR (fun i=>listed.getD i false) j from funext hgd]
      refine ih _ _ w2 hsj (F3 hE hb) (fun i hi'=> ?_) (fun j' i hj' hd=> ?_) ?_ ?_ ?_
      ·rw [hgd] at hi'
       by_cases hij:i=j
       ·subst hij;simpa [gG] using hv
       ·simp only [bR,if_neg hij] at hi';simp only [gG,if_neg hij];exact (at' L i).st _ _ _ hb (hF i hi')
      ·rw [hgd] at hj' ⊢
       by_cases hij:i=j
       ·simp [bR,hij]
       ·simp only [bR,if_neg hij]
        by_cases hj2:j'=j
        ·subst hj2;exact hdeps i hd
        ·simp only [bR,if_neg hj2] at hj';exact hcl j' i hj' hd
      ·intro i hi;rw [hgd]
       have:i≠j:=by omega
       simp only [bR,if_neg this];exact hlast i hi
      ·intro i k hi hk hik fi fk b hbi hbk;rw [hgd] at hi hk
       have ku: ∀i,bR (fun i=>listed.getD i false) j i=true->i≠j->listed.getD i false=true:=fun i h1 h2=>by simpa only [bR,if_neg h2] using h1
       by_cases hij:i=j
       ·subst hij;have hkj:k≠i:=fun e=>hik e.symm;simp only [gG,if_true,if_neg hkj] at hbi hbk
        have:=hfr k _ w1 fk (hF k (ku k hk hkj)) b hbk
        have:=hvn fi b hbi
        omega
       ·by_cases hkj:k=j
        ·subst hkj;simp only [gG,if_true,if_neg hij] at hbi hbk
         have:=hfr i _ w1 fi (hF i (ku i hi hij)) b hbi
         have:=hvn fk b hbk
         omega
        ·simp only [gG,if_neg hij,if_neg hkj] at hbi hbk;exact hpr i k (ku i hi hij) (ku k hk hkj) hik fi fk b hbi hbk
      ·rw [jx (s':=bR (fun i=>listed.getD i false) j) l.length (fun i _=>hgd i)]
       have:=nY (s:=fun i=>listed.getD i false) (i:=j) l.length hjl hun
       omega
     unfold kj at hst2;rw [<-c1, <- c2] at hst2
     exact hst.of (by simpa using hoj) hst2 next
 have hrep: ∀i,(Array.replicate l.toArray.size false).getD i false=false:=fun i=>by
  simp only [VV,Array.getElem?_replicate];split<;>rfl
 have h0:=main l.toArray.size (Array.replicate l.toArray.size false) (fun _=>undef) w.drew (by simp) (Below.refl _ _)
  (fun i hi=>by rw [hrep] at hi;cases hi) (fun j i hj=>by rw [hrep] at hj;cases hj) (fun i _=>hrep i) (fun i j hi=>by rw [hrep] at hi;cases hi) (wx _)
 have e:cX (fun i=>(Array.replicate l.toArray.size false).getD i false) (fun _=>undef) l 0 a=a:=by
  have: ∀(l':List Oper) k,cX (fun i=>(Array.replicate l.toArray.size false).getD i false) (fun _=>undef) l' k a=a:=by
   intro l'
   induction l' with
   | nil=>intro k;rfl
   | cons o l' ih=>intro k;rw [cX,hrep];exact ih (k+1)
  exact this l 0
 rw [e] at h0;exact h0
theorem Lh (Q:Exit->Act->World->Prop) (l:List Oper):y0 P l.toArray Q=fun k=>nU (wpOp P l.toArray Q) (Q .normal) (List.range' k (l.length - k)):=by
 funext k;rw [y0,C6];simp only [Vs]
theorem oK {Q:Exit->Act->World->Prop} {a:Act} {w:World} {l:List Oper} (L:List Spec) (fr:Nat->Bool) (hfr: ∀i v w,fr i=true->(at' L i).p v w-> ∀b,dc v=some b->b<w.heap.size) (m0:Nat) (hB:gI l.toArray m0=true)
  (h:nS P l.toArray L fr w.drew (y0 P l.toArray Q) (l.take m0) 0 (fun _=>a)):wpAny P .any l.toArray Q l.toArray.size (Array.replicate l.toArray.size false) a w.drew:=
 CY _ _ _ _ (fM L fr hfr m0 (Lb Q) hB (by rw [<-Lh];exact h))
theorem pX {Q:Exit->Act->World->Prop} {a:Act} {w:World} {l:List Oper} (L:List Spec) (m0:Nat) (hB:gI l.toArray m0=true)
  (h:lQ P l.toArray L w.drew (y0 P l.toArray Q) (l.take m0) 0 (fun _=>a)):wpAny P .any l.toArray Q l.toArray.size (Array.replicate l.toArray.size false) a w.drew:=
 oK L (fun _=>false) (fun i v w h=>by cases h) m0 hB (j7 _ _ _ h)
end
end
section
section
variable {D:Nat->Prop} {nu:Nat->Nat->Value} {o:List (Option aa)} {w:World} {P:Program}
def ox (P:Program) (all:List Oper) (oo:Oper) (s:AS) (K:AS->Prop):Prop:=match oo.guard with
 | none=>wS P oo.op s (fun r o'=>K (s.put oo.dst r o'))
 | some (j,want)=>sR (jl all s j) want (wS P oo.op s (fun r o'=>K (s.put oo.dst r o'))) (K (s.put oo.dst (.v Go.undef) s.o))
def eU (P:Program) (all:List Oper):List Oper->AS->(AS->Prop)->Prop
 | [],s,Q=>Q s
 | oo :: rest,s,Q=>ox P all oo s (fun s'=>eU P all rest s' Q)
def dw (P:Program) (all:List Oper) (B:AS->Prop):List Oper->AS->Prop
 | [],s=>B s
 | oo :: rest,s=>match oo.guard with
  | none=>db P oo.op s (fun r=>dw P all B rest (s.put oo.dst r s.o))
  | some (j,want)=>sR (jl all s j) want (db P oo.op s (fun r=>dw P all B rest (s.put oo.dst r s.o))) (dw P all B rest (s.put oo.dst (.v Go.undef) s.o))
abbrev ov (P:Program) (all tail:List Oper) (l:List Oper) (s:AS) (Q:AS->Prop):Prop:=dw P all (fun s=>eU P all tail s Q) l s
theorem my {f:Fr} {l:List Oper} {R:Exit->Act->World->Prop}: ∀(tail:List Oper) (k:Nat) (s:AS) (a:Act) (w:World) (nu:Nat->Nat->Value),l.drop k=tail->k<=l.length->RS f D nu s a w-> ∀ {Q:AS->Prop},eU P l tail s Q ->
  (∀s' a' w' nu',bt nu s.o w nu' s'.o w'->s'.y=s.y->RS f D nu' s' a' w'->Q s'->R .normal a' w')->wpOps P l.toArray R (List.range' k (l.length - k)) a w
 | [],k,s,a,w,nu,hl,hk,hs,Q,h,hR=>by
  have e:k=l.length:=by have:=congrArg List.length hl;simp at this;omega
  subst e;rw [V8];simpa [wpOps] using hR s a w nu (.refl _ _ _) rfl hs h
 | oo :: rest,k,s,a,w,nu,hl,hk,hs,Q,h,hR=>by
  have hlt:k<l.length:=by have:=congrArg List.length hl;simp at this;omega
  have hok:l[k]? = some oo:=by have:=congrArg (fun m=>m[0]?) hl;simpa using this
  have hl':l.drop (k+1)=rest:=by have:=congrArg List.tail hl;simpa using this
  have e:l.length - k=(l.length - (k+1))+1:=by omega
  rw [e,Wb,wpOps_cons];unfold wpOp;simp only [Vk,hok]
  have hdo:wS P oo.op s (fun r o'=>eU P l rest (s.put oo.dst r o') Q)->Region.wanted oo (yielded l.toArray a.tmps)=true->(if Region.wanted oo (yielded l.toArray a.tmps)=true then oo.wp P a w (wpOps P l.toArray R (List.range' (k+1) (l.length - (k+1)))) R∨oo.asks P a w∧LetsOut R else wpOps P l.toArray R (List.range' (k+1) (l.length - (k+1))) (a.put oo.dst Go.undef) w):=by
   intro hd hw;rw [if_pos hw];exact .inl (qJ (P:=P) hs.ro (fun y _=>hs.ev y) hd (fun v w' nu' r o' m1 m2 m3 m4=>my rest (k+1) (s.put oo.dst r o') _ w' nu' hl' hlt (hs.put m1 m2 m3 oo.dst) m4 (fun s' a' w2 nu2 q1 q2 q3 q4=>hR s' a' w2 nu2 (by simpa only [AS.put] using m1.trans q1) (q2.trans rfl) q3 q4)))
  have hskip:eU P l rest (s.put oo.dst (.v Go.undef) s.o) Q->Region.wanted oo (yielded l.toArray a.tmps)=false->(if Region.wanted oo (yielded l.toArray a.tmps)=true then oo.wp P a w (wpOps P l.toArray R (List.range' (k+1) (l.length - (k+1)))) R∨oo.asks P a w∧LetsOut R else wpOps P l.toArray R (List.range' (k+1) (l.length - (k+1))) (a.put oo.dst Go.undef) w):=by
   intro hd hw;rw [if_neg (by rw [hw];decide)];exact my rest (k+1) (s.put oo.dst (.v Go.undef) s.o) _ w nu hl' hlt (hs.put (.refl _ _ _) hs.ro (.v _) oo.dst) hd (fun s' a' w2 nu2 q1 q2 q3 q4=>hR s' a' w2 nu2 (by simpa only [AS.put] using q1) (q2.trans rfl) q3 q4)
  simp only [eU,ox] at h
  split at h
  ·rename_i hg;exact hdo h (by simp [Region.wanted,hg])
  ·rename_i j want hg;have hyv: ∀g,jl l s j=some g->yielded l.toArray a.tmps j=g:=fun g hgv=>fa (D:=D) (nu:=nu) (w:=w) (fun d c v hd h1 h2=>hs.tm.at' d c v h1 h2) hs.tm.len hgv;unfold sR at h
   split at h
   ·rename_i b e
    cases hb:b==want
    ·rw [hb] at h;exact hskip h (by simp only [Region.wanted,hg,hyv _ e];simpa using hb)
    ·rw [hb] at h;exact hdo h (by simp only [Region.wanted,hg,hyv _ e];simpa using hb)
   ·rename_i e;exact hskip h (by simp only [Region.wanted,hg,hyv _ e];rfl)
   ·exact h.elim
theorem Bd {l:List Oper} {m0:Nat} (hB:gI l.toArray m0=true) {i j:Nat} {oi oj:Oper} (hij:i<j) (hi:l[i]? = some oi) (hj:l[j]? = some oj) (hjm:j<m0):aG l.toArray j i=true∨ ∀d,oi.dst=some d->d∉oj.looksAt l.toArray:=by
 simp only [gI,VS,Wc,Wd,Vs] at hB;have hjn:=(U4.1 hj).1
 have:=(hB.1.2 j hjn).1 i hij
 simp only [Hq,Vk,hi,hj,VS,We,Bool.not_eq_true',decide_eq_true_eq] at this
 rcases this.1.1.1 with (h|h)|h
 ·omega
 ·exact .inl h
 ·exact .inr (Oper.apart_spec h).1
theorem gb {f:Fr} {l:List Oper} {m0:Nat} (hm0:m0<=l.length) (hB:gI l.toArray m0=true) {s:AS} {a:Act} {w0:World} {B:AS->Prop} {T:Nat->Act->World->Prop} (hs:RS f D nu s a w0)
  (hT: ∀sk a' wr,Below w0.heap.size w0 wr->sk.o=s.o->sk.y=s.y->RS f D nu sk a' wr->B sk->T m0 a' wr) :
  ∀(rest:List Oper) (k:Nat) (sk:AS) (rs:List AV) (A:(Nat->Value)->Act),(l.take m0).drop k=rest->k<=m0->De l s a k sk rs A->dw P l B rest sk-> ∃rs',lQ P l.toArray ((rs++rs').map (cv D nu s.o)) w0 T rest k A
 | [],k,sk,rs,A,hl,hk,hI,h=>by
  have hkm:k=m0:=by have:=congrArg List.length hl;simp at this;omega
  subst hkm;refine ⟨[],fun x wr hE hD=> ?_⟩;have hro:RO D nu s.o wr:=hs.ro.below hE
  have hsk:RS f D nu sk (A x) wr:=by
   refine ⟨by rw [hI.o];exact hro,⟨hI.size x,fun t c v h1 h2=> ?_⟩,by rw [hI.iB x];exact hs.iB.mono hs.ro (aw hE)⟩;rw [hI.o]
   rcases hI.val x t c v h1 h2 with ⟨h3,h4⟩|⟨i,q1,q2,q3,q4⟩
   ·exact (hs.tm.at' t c v h3 h4).mono (aw hE) (fun _ _ h=>h)
   ·have:=hD i q1
    rw [iF q3] at this;rw [q4];exact this.2
  exact hT sk (A x) wr hE hI.o hI.y hsk h
 | oo :: rest,k,sk,rs,A,hl,hk,hI,h=>by
  have hkm:k<m0:=by have:=congrArg List.length hl;simp at this;omega
  have hok:l[k]? = some oo:=by
   have:=congrArg (fun m=>m[0]?) hl
   simp only [List.getElem?_drop,Nat.add_zero,V7] at this
   rwa [Vx hkm] at this
  have hl':(l.take m0).drop (k+1)=rest:=by have:=congrArg List.tail hl;simpa using this
  
  have hlook: ∀x wr,Below w0.heap.size w0 wr->(∀rs' i,aG l.toArray k i=true->i<k->(at' ((rs++rs').map (cv D nu s.o)) i).p (x i) wr)-> ∀(t:Nat) c v,t∈oo.looksAt l.toArray->sk.t[t]? = some c->(A x).tmps[t]? = some v->RA D nu s.o wr c v:=by
   intro x wr hE hD t c v ht h1 h2
   rcases hI.val x t c v h1 h2 with ⟨h3,h4⟩|⟨i,q1,⟨oi,q2,q5⟩,q3,q4⟩
   ·exact (hs.tm.at' t c v h3 h4).mono (aw hE) (fun _ _ h=>h)
   ·rcases Bd hB q1 q2 hok hkm with h5|h5
    ·have:=hD [] i h5 q1
     rw [iF q3] at this;rw [q4];exact this.2
    ·exact absurd ht (h5 t q5)
  have hevs: ∀x wr,Below w0.heap.size w0 wr->(∀rs' i,aG l.toArray k i=true->i<k->(at' ((rs++rs').map (cv D nu s.o)) i).p (x i) wr)->I0 D nu s.o wr sk.ev (A x).eval oo.op:=by
   intro x wr hE hD y hy
   cases y with
   | tmp t=>
    simp only [AS.ev,Act.eval]
    rcases U6 t sk.t.length with hlt|hge
    ·have e1:sk.t[t]? = some sk.t[t]:=Vi hlt
     have hlt':t<(A x).tmps.size:=by rw [<-hI.size x];exact hlt
     have hx:(A x).tmps[t]? = some (A x).tmps[t]:=Vh hlt';rw [getD_some e1]
     have:(A x).tmps.getD t Go.undef=(A x).tmps[t]:=by simp [Array.getD,hlt']
     rw [this];exact hlook x wr hE hD t _ _ (List.mem_append_left _ (List.mem_filterMap.2 ⟨.tmp t,hy,rfl⟩)) e1 hx
    ·rw [List.getD_eq_getElem?_getD,List.getElem?_eq_none hge];exact .undef _
   | const v=>exact .v v
   | global gi=>exact (qj hs.ro sk gi).mono (aw hE) (fun _ _ h=>h)
   | func f=>exact .fn f [] [] #[] #[] rfl rfl (fun i c x h=>by simp at h) (fun i c x h=>by simp at h)
  
  have hdo:db P oo.op sk (fun r=>dw P l B rest (sk.put oo.dst r sk.o))->(∀x wr,Below w0.heap.size w0 wr->(∀rs' i,aG l.toArray k i=true->i<k->(at' ((rs++rs').map (cv D nu s.o)) i).p (x i) wr)->Region.wanted oo (yielded l.toArray (A x).tmps)=true) ->
    ∃rs',lQ P l.toArray ((rs++rs').map (cv D nu s.o)) w0 T (oo :: rest) k A:=by
   intro hd hw;obtain ⟨r,hk',hr⟩:=jH hd;rw [hI.o] at hk';obtain ⟨rs',hrel⟩:=gb hm0 hB hs hT rest (k+1) _ (rs++[r]) _ hl' hkm (hI.step hok r) hk';rw [List.append_assoc,V3] at hrel;refine ⟨r :: rs',⟨(fun x wr hE hD=> ?_),hrel⟩⟩
   have hD': ∀rs'' i,aG l.toArray k i=true->i<k->(at' ((rs++rs'').map (cv D nu s.o)) i).p (x i) wr:=fun rs'' i h1 h2=>by
    have h3:=hD i h1
    have h5:i<rs.length:=by rw [hI.len];exact h2
    have h4:rs[i]? = some rs[i]:=Vi h5;rw [iF h4] at h3 ⊢;exact h3
   obtain ⟨r',rfl,hout⟩:=oJ (P:=P) (nu:=nu) (D:=D) (w:=wr) (rho:=(A x).eval) (by rw [hI.o];exact hs.ro.below hE) (by rw [hI.o];exact hevs x wr hE hD') hr;have e:=iG (D:=D) (nu:=nu) (o:=s.o) (rs:=rs) (rs':=rs') (r:=r');rw [hI.len] at e;refine .inl ⟨hw x wr hE hD', ?_⟩;rw [e];rw [hI.o] at hout;exact hout
  simp only [dw] at h
  split at h
  ·rename_i hg;exact hdo h (fun x wr hE hD=>by simp [Region.wanted,hg])
  ·rename_i j want hg
   have hyv: ∀g,jl l sk j=some g-> ∀x wr,Below w0.heap.size w0 wr->(∀rs' i,aG l.toArray k i=true->i<k->(at' ((rs++rs').map (cv D nu s.o)) i).p (x i) wr)->yielded l.toArray (A x).tmps j=g:=fun g hgv x wr hE hD=>
    fa (D:=D) (nu:=nu) (w:=wr) (fun d c v hd h1 h2=>by
     rw [hI.o];refine hlook x wr hE hD d c v ?_ h1 h2;obtain ⟨og,q1,q2⟩:=hd;refine List.mem_append_right _ ?_;simp only [hg,Vk,q1,Option.bind_some,q2]
     simp) (hI.size x) hgv
   have hskip:dw P l B rest (sk.put oo.dst (.v Go.undef) sk.o)->(∀x wr,Below w0.heap.size w0 wr->(∀rs' i,aG l.toArray k i=true->i<k->(at' ((rs++rs').map (cv D nu s.o)) i).p (x i) wr)->Region.wanted oo (yielded l.toArray (A x).tmps)=false) ->
     ∃rs',lQ P l.toArray ((rs++rs').map (cv D nu s.o)) w0 T (oo :: rest) k A:=by
    intro hk' hw;rw [hI.o] at hk';obtain ⟨rs',hrel⟩:=gb hm0 hB hs hT rest (k+1) _ (rs++[.v Go.undef]) _ hl' hkm (hI.step hok (.v Go.undef)) hk';rw [List.append_assoc,V3] at hrel;refine ⟨.v Go.undef :: rs',⟨(fun x wr hE hD=> ?_),hrel⟩⟩
    have hD': ∀rs'' i,aG l.toArray k i=true->i<k->(at' ((rs++rs'').map (cv D nu s.o)) i).p (x i) wr:=fun rs'' i h1 h2=>by
     have h3:=hD i h1
     have h5:i<rs.length:=by rw [hI.len];exact h2
     have h4:rs[i]? = some rs[i]:=Vi h5;rw [iF h4] at h3 ⊢;exact h3
    have e:=iG (D:=D) (nu:=nu) (o:=s.o) (rs:=rs) (rs':=rs') (r:= .v Go.undef);rw [hI.len] at e;refine .inr ⟨hw x wr hE hD', ?_⟩;rw [e];exact ⟨hs.ro.below hE, .v _⟩
   unfold sR at h
   split at h
   ·rename_i b e
    cases hb:b==want
    ·rw [hb] at h;exact hskip h (fun x wr hE hD=>by simp only [Region.wanted,hg,hyv _ e x wr hE hD];simpa using hb)
    ·rw [hb] at h;exact hdo h (fun x wr hE hD=>by simp only [Region.wanted,hg,hyv _ e x wr hE hD];simpa using hb)
   ·rename_i e;exact hskip h (fun x wr hE hD=>by simp only [Region.wanted,hg,hyv _ e x wr hE hD];rfl)
   ·exact h.elim
theorem tq {op:Op} {s:AS} {K K':AV->Prop} (h: ∀r,K r->K' r) (hd:db P op s K):db P op s K':=by
 obtain ⟨r,hk,hr⟩:=jH hd;have key: ∀r',r'=r->K' r':=fun r' e=>e ▸ h r hk;unfold db at hr ⊢
 split at hr
 ·split at hr
  ·unfold eJ at hr ⊢
   split at hr
   ·rename_i hb;rw [if_pos hb];exact key _ hr
   ·rename_i hb;rw [if_neg hb];exact key _ hr
  ·exact hr.elim
 ·split at hr
  ·unfold zu at hr ⊢
   split at hr
   ·obtain ⟨r',q1,q2⟩:=hr;exact ⟨r',q1,key _ q2⟩
   ·exact hr.elim
  ·unfold BC at hr ⊢
   split at hr
   ·exact ⟨hr.1,key _ hr.2⟩
   ·exact hr.elim
 ·unfold BC at hr ⊢
  split at hr
  ·exact ⟨hr.1,key _ hr.2⟩
  ·exact hr.elim
theorem DH {n0 id:Nat} {s:AS} {l:List Oper} {Q:aR->AS->Prop} (m0:Nat) (hB:gI l.toArray m0=true) (hC:dy l.toArray=true) (h:ov P l (l.drop m0) (l.take m0) s (Q .normal)):bS P n0 (.region id l.toArray true) s Q:=by
 refine .inr (fun f m D nu a w hZr hn hm hs hmx R hO hR=> ?_)
 have hm0:m0<=l.length:=by
  simp only [gI,VS,decide_eq_true_eq,Vs] at hB;exact Wf hB.1.1.2
 obtain ⟨rs,hrel⟩:=gb (P:=P) (T:=y0 P l.toArray R) hm0 hB hs.drew (fun sk a' wr hE ho hy hsk hB'=>my (P:=P) (f:=f) (l:=l) (R:=R) (l.drop m0) m0 sk a' wr nu rfl hm0 hsk hB' (fun s' a2 w' nu' q1 q2 q3 q4=>hR .normal D f.Z s' a2 w' nu' (by
  rw [q2,hy];exact m.own hm hs.ro ((aw (cP w)).trans ((aw hE).trans (ho ▸ q1))) q3.ro) q3 q4)) (l.take m0) 0 s [] (fun _=>a) (by simp) (Va _) ⟨rfl,rfl,rfl,fun _=>rfl,fun _=>hs.tm.len,fun x t c v h1 h2=> .inl ⟨h1,h2⟩⟩ h
 exact ou hmx hC hO (pX _ m0 hB hrel)
theorem CG {r:Option Nat} {n:Nat} {ops:Array Oper} (hC:dy ops=true) (R:Exit->Act->World->Prop):Jl P ops (wpOpIn (WF r) n P ops R):=⟨fun h k=>wpOpIn_mono h k,fun {i o S K a w} hi h next=>by
 unfold wpOpIn;simp only [hi]
 rcases h with ⟨h1,h2⟩|⟨h1,h2⟩
 ·rw [if_pos h1];refine ⟨fun f _=>trivial, ?_⟩;rw [kM hC hi];generalize (execOp a.eval o).run P w=r at h2
  cases r with
  | halt _ _=>exact h2.elim
  | ok n w'=>
   cases n<;>first|exact h2.elim|skip
   case value u=>exact next _ _ h2.1 h2.2
   case skip=>exact next _ _ h2.1 h2.2
   case enter f args=>
    refine ⟨fun e=>(by cases e),jL (Calls.mono h2 fun e w'' he=> ?_)⟩;obtain ⟨v,rfl,hv,hb⟩:=he
    exact next _ _ hv hb
 ·rw [if_neg (by rw [h1];decide)]
  exact ⟨fun f _=>trivial,next _ _ h2 (Below.refl _ _)⟩⟩
theorem ve {r:Option Nat} {n:Nat} {ops:Array Oper} {R:Exit->Act->World->Prop}: ∀(fuel:Nat) (listed:Array Bool) (a:Act) (w:World),lX (wpOpIn (WF r) n P ops R) ops (R .normal) fuel listed a w->wpAnyIn (WF r) n P .any ops R fuel listed a w
 | 0,_,_,_,h=>h
 | fuel+1,_,_,_,h=>⟨h.1,fun i hi=>wpOpIn_mono (fun _ _=>ve fuel _ _ _) (h.2 i hi)⟩
theorem nF {r:Option Nat} {n:Nat} {l:List Oper} {R:Exit->Act->World->Prop}: ∀(m k:Nat) (a:Act) (w:World),k+m=l.length->wpListIn (WF r) n P l.toArray R (l.drop k) a w->nU (wpOpIn (WF r) n P l.toArray R) (R .normal) (List.range' k m) a w
 | 0,k,a,w,hk,h=>by
  rw [List.drop_eq_nil_of_le (by omega)] at h;exact h
 | m+1,k,a,w,hk,h=>by
  have hlt:k<l.length:=by omega
  rw [List.drop_eq_getElem_cons hlt] at h;rw [Wb];simp only [nU,wpOpIn,Vk,Vi hlt];simp only [wpListIn] at h
  split at h
  ·rename_i hw;rw [if_pos hw];exact Oper.wpIn_mono (fun a w h=>nF m (k+1) a w (by omega) h) h
  ·rename_i hw;rw [if_neg hw];exact ⟨h.1,nF m (k+1) _ w (by omega) h.2⟩
theorem DI {n0 id:Nat} {s:AS} {l:List Oper} {Q:aR->AS->Prop} (m0:Nat) (hB:gI l.toArray m0=true) (hC:dy l.toArray=true) (h:dw P l (fun s=>gK P l (l.drop m0) s (Q .normal)) (l.take m0) s):bS P n0 (.region id l.toArray true) s Q:=by
 refine .inr (fun f m D nu a w hZr hn hm hs hmx R hO hR=> ?_)
 have hm0:m0<=l.length:=by
  simp only [gI,VS,decide_eq_true_eq,Vs] at hB;exact Wf hB.1.1.2
 have hcalm: ∀oo,oo∈l.drop m0-> ∀c,oo.op ≠ .defer c:=fun oo ho c e=>by
  unfold dy at hC;rw [VU] at hC;have h2:=hC oo (by simpa using List.mem_of_mem_drop ho);rw [e] at h2;cases h2
 obtain ⟨rs,hrel⟩:=gb (P:=P) (T:=fun k=>nU (wpOpIn (WF f.r) 9 P l.toArray R) (R .normal) (List.range' k (l.length - k))) hm0 hB hs.drew (fun sk a' wr hE ho hy hsk hB'=>nF _ _ _ _ (by omega) (jg m hZr _ sk a' wr D nu hcalm (by
  rw [ho,hy];exact m.own hm hs.ro ((aw (cP w)).trans (aw hE)) (ho ▸ hsk.ro)) hsk hB' (fun D' s' a2 w2 nu' q1 q2 q3=>hR .normal D' f.Z s' a2 w2 nu' q1 q2 q3))) (l.take m0) 0 s [] (fun _=>a) (by simp) (Va _) ⟨rfl,rfl,rfl,fun _=>rfl,fun _=>hs.tm.len,fun x t c v h1 h2=> .inl ⟨h1,h2⟩⟩ h
 exact wpIn_region_any hmx (ve _ _ _ _ (fM _ (fun _=>false) (fun i v w h=>by cases h) m0 (CG hC R) hB (j7 _ _ _ hrel)))
def rG:Op->Bool
 | .alloc _| .store .. | .mapUpdate .. | .insert .. | .makeSlice .. | .makeMap .. =>true
 | .call c=>match c.callee with
  | .builtin .append| .builtin .copy| .builtin .delete| .builtin .clear=>true
  | _=>false
 | _=>false
def pF:List Oper->Nat
 | []=>0
 | o :: l=>if rG o.op then 0 else pF l+1
def ej (P:Program) (all:List Oper):List Oper->AS->(AS->Prop)->Prop
 | [],s,Q=>Q s
 | oo :: rest,s,Q=>if rG oo.op then eU P all (oo :: rest) s Q else eo P all oo s (fun s'=>ej P all rest s' Q)
theorem kI (all:List Oper): ∀(l:List Oper) (s:AS) (Q:AS->Prop),ej P all l s Q->ov P all (l.drop (pF l)) (l.take (pF l)) s Q
 | [],s,Q,h=>h
 | oo :: rest,s,Q,h=>by
  simp only [ej] at h
  by_cases he:rG oo.op=true
  ·rw [if_pos he] at h;simpa only [pF,he,if_true,List.drop_zero,List.take_zero,ov,dw] using h
  ·rw [if_neg he] at h;simp only [pF,he,if_false,List.drop_succ_cons,List.take_succ_cons,ov,dw,Bool.false_eq_true];unfold eo at h
   split at h
   ·rename_i hg;simp only [hg];exact tq (fun r hr=>kI all rest _ Q hr) h
   ·rename_i j want hg;simp only [hg];unfold sR at h ⊢
    split at h
    ·rename_i b e;unfold eJ at h ⊢
     split at h
     ·rename_i hb;rw [if_pos hb];exact tq (fun r hr=>kI all rest _ Q hr) h
     ·rename_i hb;rw [if_neg hb];exact kI all rest _ Q h
    ·rename_i e;exact kI all rest _ Q h
    ·exact h.elim
theorem DG {n0 id:Nat} {s:AS} {l:List Oper} {Q:aR->AS->Prop} (hB:gI l.toArray (pF l)=true) (hC:dy l.toArray=true) (h:ej P l l s (Q .normal)):bS P n0 (.region id l.toArray true) s Q:=
 DH (pF l) hB hC (kI l l s _ h)
theorem FL {all rest:List Oper} {oo:Oper} {s:AS} {Q:AS->Prop} (he:rG oo.op=false) (h: ∀K:AS->Prop,(∀s',ej P all rest s' Q->K s')->eo P all oo s K):ej P all (oo :: rest) s Q:=by
 simp only [ej,he,Bool.false_eq_true,if_false];exact h _ (fun _ h=>h)
theorem zJ {all rest:List Oper} {oo:Oper} {s:AS} {Q:AS->Prop} (he:rG oo.op=true) (h:eU P all (oo :: rest) s Q):ej P all (oo :: rest) s Q:=by
 simpa only [ej,he,if_true] using h
theorem zK {all:List Oper} {s:AS} {Q:AS->Prop} (h:Q s):ej P all [] s Q:=h
theorem JF {all rest:List Oper} {oo:Oper} {s:AS} {Q:AS->Prop} (h: ∀K:AS->Prop,(∀s',eU P all rest s' Q->K s')->ox P all oo s K):eU P all (oo :: rest) s Q:=h _ (fun _ h=>h)
theorem DB {all:List Oper} {s:AS} {Q:AS->Prop} (h:Q s):eU P all [] s Q:=h
theorem zN {all tail:List Oper} {s:AS} {Q:AS->Prop} (h:eU P all tail s Q):ov P all tail [] s Q:=h
@[go_sem] theorem JA (all:List Oper) (dst:Option Tmp) (op:Op) (ty:TypeId) (pos:String) (aft:Array Edge) (s:AS) (K:AS->Prop) :
  ox P all ⟨dst,op,ty,pos,aft,none⟩ s K=wS P op s (fun r o'=>K (s.put dst r o')):=rfl
@[go_sem] theorem Jz (all:List Oper) (dst:Option Tmp) (op:Op) (ty:TypeId) (pos:String) (aft:Array Edge) (j:Nat) (want:Bool) (s:AS) (K:AS->Prop) :
  ox P all ⟨dst,op,ty,pos,aft,some (j,want)⟩ s K=sR (jl all s j) want (wS P op s (fun r o'=>K (s.put dst r o'))) (K (s.put dst (.v Go.undef) s.o)):=rfl
end
end
section
class ag (G:Prop) (H:outParam Prop):Prop where
 up:H->G
section
variable {P:Program} {all rest tail:List Oper} {n0:Nat} {s:AS} {Q:aR->AS->Prop} {R K:AS->Prop} {oo o2:Oper} {i:Nat} {c d:Code} {x:Operand} {l:List Oper} {bx:List Bx} {k:Nat}
theorem FM {B:AS->Prop} (h: ∀K:AS->Prop,(∀s',dw P all B rest s'->K s')->eo P all oo s K):dw P all B (oo :: rest) s:=by
 have:=h _ (fun _ h=>h)
 unfold eo at this;simp only [dw]
 split at this<;>simp_all
instance {B:AS->Prop}:ag (dw P all B (oo :: rest) s) (∀K:AS->Prop,(∀s',dw P all B rest s'->K s')->eo P all oo s K):=⟨FM⟩
instance:ag (dw P all (fun s=>gK P all tail s R) [] s) (gK P all tail s R):=⟨fun h=>h⟩
instance:ag (gK P all [] s R) (R s):=⟨FO⟩
instance:ag (gK P all (oo :: rest) s R) (∀K:AS->Prop,(∀s',gK P all rest s' R->K s')->pz P all oo s K):=⟨Mt⟩
instance {dst:Option Tmp} {op:Op} {ty:TypeId} {pos:String} {aft:Array Edge}:ag (dY P all [⟨dst,op,ty,pos,aft,none⟩] s R) (∀K:AS->Prop,(∀s',R s'->K s')->wS P op s (fun r o'=>K (s.put dst r o'))):=⟨zO⟩
instance:ag (dY P all (oo :: o2 :: rest) s R) (∀K:AS->Prop,(∀s',dY P all (o2 :: rest) s' R->K s')->eo P all oo s K):=⟨Jt⟩
instance:ag (bS P n0 (.seq c d) s Q) (∀K:AS->Prop,(∀s',bS P n0 d s' Q->K s')->bS P n0 c s (lW K Q)):=⟨JJ⟩
instance:ag (bS P n0 (.region i l.toArray false) s Q) (gK P l l s (Q .normal)):=⟨zS⟩
instance:ag (bS P n0 .skip s Q) (Q .normal s):=⟨FZ⟩
instance:ag (bS P n0 (.block i c) s Q) (bS P n0 c s (uQ i Q)):=⟨DF⟩
instance:ag (bS P n0 (.cond x c d) s Q) (zq (s.ev x) (bS P n0 c s Q) (bS P n0 d s Q)):=⟨FU⟩
instance:ag (bS P n0 (.exit i) s Q) (Q (.exit i) s):=⟨FW⟩
instance:ag (bS P n0 .ret s Q) (Q .ret s):=⟨JH⟩
instance:ag (bS P n0 (.scope c) s Q) (bS P n0 c s (wW Q)):=⟨DM⟩
instance:ag (bS P n0 (.label i) s Q) (Q .normal s):=⟨DJ⟩
instance:ag (bS P n0 (.goto i) s Q) (Q (.goto i) s):=⟨FX⟩
instance:ag (lW K Q .normal s) (K s):=⟨xm⟩
instance:ag (lW K Q (.exit i) s) (Q (.exit i) s):=⟨Dz⟩
instance:ag (lW K Q .ret s) (Q .ret s):=⟨FQ⟩
instance:ag (lW K Q (.goto i) s) (Q (.goto i) s):=⟨DA⟩
instance:ag (uQ i Q .normal s) (Q .normal s):=⟨xg⟩
instance:ag (uQ i Q .ret s) (Q .ret s):=⟨FI⟩
instance:ag (uQ i Q (.goto k) s) (Q (.goto k) s):=⟨Dp⟩
instance:ag (uQ i Q (.exit k) s) (if k=i then Q .normal s else Q (.exit k) s):=⟨fun h=>h⟩
instance:ag (wW Q .normal s) (Q .normal s):=⟨xk⟩
instance:ag (wW Q .ret s) (Q .ret s):=⟨FP⟩
instance:ag (wW Q (.exit i) s) (Q (.exit i) s):=⟨Dw⟩
instance:ag (ej P all [] s R) (R s):=⟨zK⟩
instance:ag (eU P all [] s R) (R s):=⟨DB⟩
instance:ag (eU P all (oo :: rest) s R) (∀K:AS->Prop,(∀s',eU P all rest s' R->K s')->ox P all oo s K):=⟨JF⟩
instance:ag (ov P all tail [] s R) (eU P all tail s R):=⟨zN⟩
instance:ag (zp P all [] k s bx R) (bx.all (fun b=>b.row.isSome)=true∧R (qV s bx)):=⟨FJ⟩
end
theorem wE {P:Program} {n0 id:Nat} {s:AS} {l:List Oper} {Q:aR->AS->Prop} (h:ej P l l s (Q .normal)) (hB:gI l.toArray (pF l)=true:=by decide+kernel) (hC:dy l.toArray=true:=by kernel_rfl):bS P n0 (.region id l.toArray true) s Q:=DG hB hC h
theorem wK {P:Program} {all rest:List Oper} {oo:Oper} {s:AS} {Q:AS->Prop} (h: ∀K:AS->Prop,(∀s',ej P all rest s' Q->K s')->eo P all oo s K) (he:rG oo.op=false:=by decide):ej P all (oo :: rest) s Q:=FL he h
theorem wF {P:Program} {all rest:List Oper} {oo:Oper} {s:AS} {Q:AS->Prop} (h:eU P all (oo :: rest) s Q) (he:rG oo.op=true:=by decide):ej P all (oo :: rest) s Q:=zJ he h
end
section
def encS (s:ByteArray):List AV:=[.v (.string s)]
def encI (n:Int):List AV:=[.v (.int .i64 n)]
def J5 (x:sY):List AV:=[.v (.int .i64 x.kind), .v (.string x.name), .v (.string x.key), .v (.int .i64 x.val.kind), .v (.int .i64 x.val.num), .v (.string x.val.text)]
def RZ (x:zE):List AV:=[.v (.int .i64 x.kind), .v (.int .i64 x.num), .v (.string x.text)]
def MD (x:BD):List AV:=[.v (.int .i64 x.op), .v (.int .i64 x.left.kind), .v (.string x.left.name), .v (.string x.left.key), .v (.int .i64 x.left.val.kind), .v (.int .i64 x.left.val.num), .v (.string x.left.val.text),
 .v (.int .i64 x.right.kind), .v (.string x.right.name), .v (.string x.right.key), .v (.int .i64 x.right.val.kind), .v (.int .i64 x.right.val.num), .v (.string x.right.val.text)]
mutual
def bC:Ex->List AV
 | .mk k s l=>[.v (.int .i64 k), .v (.string s), .aH 3 (B2 l) l.length]
def B2:List Ex->List (List AV)
 | []=>[]
 | x :: xs=>bC x :: B2 xs
end
theorem kO: ∀l:List Ex,B2 l=l.map bC
 | []=>rfl
 | x :: xs=>by rw [B2,kO xs,List.map_cons]
theorem aN (x:Ex):bC x=[.v (.int .i64 x.kind), .v (.string x.label), .aH 3 (x.kids.map bC) x.kids.length]:=by
 obtain ⟨k,s,l⟩:=x;rw [bC,kO];rfl
def Gu (p:l7):List AV:=[.v (.string p.aD), .v (.string p.to), .v (.bool p.path), .v (.string p.label), .v (.string p.name), .v (.int .i64 p.expr.kind), .v (.string p.expr.label), .aH 3 (p.expr.kids.map bC) p.expr.kids.length]
def ME (q:Di):List AV:=[.aH 8 (q.p9.map Gu) q.p9.length, .aH 13 (q.conds.map MD) q.conds.length, .aH 6 (q.ret.map J5) q.ret.length, .v (.int .i64 q.range), .v (.int .i64 q.Ir)]
def cg (l:List ByteArray):AV:= .aH 1 (l.map encS) l.length
def O2 (l:List Int):AV:= .aH 1 (l.map encI) l.length
theorem dB (n:Nat) (l:List ByteArray):bZ n (l.map encS)=true:=aZ _ (fun _=>rfl) l
theorem Lp (n:Nat) (l:List Int):bZ n (l.map encI)=true:=aZ _ (fun _=>rfl) l
theorem CU (n:Nat) (l:List sY):bZ n (l.map J5)=true:=aZ _ (fun _=>rfl) l
theorem CR (n:Nat) (l:List BD):bZ n (l.map MD)=true:=aZ _ (fun _=>rfl) l
theorem lu (n:Nat) (x:Ex):bp n (bC x)=true:=by
 induction x using Ex.ind with
 | h k s l ih=>
  rw [bC,kO];simp only [bp,AV.wf,Wg,Bool.true_and];exact wG (fun r hr=>by obtain ⟨x,hx,rfl⟩:=List.mem_map.1 hr;exact ih x hx)
theorem fV (n:Nat) (l:List Ex):bZ n (l.map bC)=true:=aZ _ (lu n) l
theorem zg (n:Nat) (p:l7):bp n (Gu p)=true:=by simp only [Gu,bp,AV.wf,fV,Wg]
theorem CV (n:Nat) (l:List l7):bZ n (l.map Gu)=true:=aZ _ (zg n) l
theorem Lq (n:Nat) (q:Di):bp n (ME q)=true:=by simp only [ME,bp,AV.wf,CV,CR,CU,Wg]
attribute [go_sem] cg O2 encS encI J5 RZ MD Gu ME dB Lp CU CR lu fV zg CV Lq
@[go_sem] theorem getD_map {α β:Type} (f:α->β) (l:List α) (k:Nat) (d:β) (h:k<l.length):(l.map f).getD k d=f l[k]:=by
 simp [List.getD,h]
section
variable {D:Nat->Prop} {nu:Nat->Nat->Value} {o:List (Option aa)} {w:World} {P:Program}
theorem qZ {b:Nat}: ∀ {cs:List Value} {off:Nat},(∀(j:Nat) v,cs[j]? = some v->w.cell? ⟨b,off+j,none⟩=some v)->cD w b off cs
 | [],_,_=>trivial
 | y :: cs,off,h=>⟨by simpa using h 0 y rfl,qZ (off:=off+1) (fun j v hj=>by rw [show off+1+j=off+(j+1) by omega];exact h (j+1) v (by simpa using hj))⟩
def Jk (D:Nat->Prop) (nu:Nat->Nat->Value) (o:List (Option aa)) (w:World) (cs:List AV) (xs:List Value):Prop:=cs.length=xs.length∧ ∀(j:Nat) c x,cs[j]? = some c->xs[j]? = some x->RA D nu o w c x
theorem RA.Pl {α:Type} {z:Nat} {enc:α->List AV} {rd:α->List Value->Prop} {xs:List α} {v:Value} (h:RA D nu o w (.aH z (xs.map enc) xs.length) v) (hrd: ∀x,x∈xs-> ∀cs:List Value,Jk D nu o w (enc x) cs->rd x cs):dV w z rd xs v:=by
 generalize hn:xs.length=n at h;generalize hr:xs.map enc=rows at h
 cases h with
 | br=>
  exact .inl ⟨.inl rfl,Wh.1 hn⟩
 | bz _ a=>
  exact .inl ⟨.inr ⟨a,rfl⟩,Wh.1 hn⟩
 | aH _ _ _ b off cap f h1 h2 h3 h4 h5 h6 h7 h8=>
  subst hr;simp only [List.length_map] at h2;refine .inr ⟨b,off,cap,by rw [hn],h2,h3,fun i x hx=> ?_⟩
  have hi:(xs.map enc)[i]? = some (enc x):=by rw [Vl,hx];rfl
  refine ⟨(List.range (enc x).length).map (f i),hrd x (VD hx) _ ⟨by simp,fun j c y hc hy=> ?_⟩,qZ (fun j y hy=> ?_)⟩
  ·have hj:=(U4.1 hc).1;rw [Vl,Vm hj] at hy;cases hy;exact h7 i j _ c hi hc
  ·rw [Vl] at hy
   have hj:j<(enc x).length:=by
    rcases U6 j (enc x).length with q|q
    ·exact q
    ·rw [Vn (by simpa using q)] at hy;cases hy
   rw [Vm hj] at hy;cases hy;exact h6 i j _ _ hi (Vi hj)
theorem Ie {vs cs:List Value} (h:Jk D nu o w (vs.map AV.v) cs):cs=vs:=by
 apply List.ext_getElem?
 intro i;have hl:=h.1;simp only [List.length_map] at hl
 rcases U6 i vs.length with q|q
 ·have e1:(vs.map AV.v)[i]? = some (.v vs[i]):=by simp [q]
  have e2:cs[i]? = some cs[i]:=Vi (by omega)
  have:=(h.2 i _ _ e1 e2).b5
  rw [e2,this,Vi q]
 ·rw [Vn q,Vn (by omega)]
theorem Ic: ∀(x:Ex) (cs:List Value),Jk D nu o w (bC x) cs->dZ w x cs:=by
 intro x
 induction x using Ex.ind with
 | h k s l ih=>
  intro cs h;rw [bC,kO] at h;obtain ⟨hl,hr⟩:=h
  match cs,hl with
  | [a,b,c],_=>
   have h0:=(hr 0 _ a rfl rfl).b5;have h1:=(hr 1 _ b rfl rfl).b5;have h2:=hr 2 _ c rfl rfl;rw [dZ];exact ⟨c,by rw [h0,h1],fS.2 (RA.Pl h2 (fun y hy cs' hc=>ih y hy cs' hc))⟩
theorem H6 {cs:List AV} {v:Value} (h:RA D nu o w (.agg cs) v): ∃xs:List Value,v = .agg xs.toArray∧Jk D nu o w cs xs:=by
 cases h with
 | agg _ xs h1 h2 h3=>exact ⟨xs.toList,by simp,by simpa using h1,fun j c x q1 q2=>h2 j c x q1 (by simpa using q2)⟩
theorem RA.yr {α:Type} {z:Nat} (hz:0<z) {enc:α->List AV} {rd:α->List Value->Prop} {xs:List α} {v:Value} (hD: ∀b off n c,v = .slice (some ⟨b,off,none⟩) n c->b<w.heap.size->D b) (h:dV w z rd xs v) (hlen: ∀x,(enc x).length=z)
  (hrd: ∀x,x∈xs-> ∀cs:List Value,rd x cs->Jk D nu [] w (enc x) cs∧ ∀y∈cs,y.oneCell'=true):RA D nu [] w (.aH z (xs.map enc) xs.length) v:=by
 rcases h with ⟨rfl|⟨a,rfl⟩,rfl⟩|⟨b,off,cap,rfl,h1,h2,h3⟩
 ·exact .br z
 ·exact .bz z a
 ·have hex: ∀i:Nat, ∃cs:List Value, ∀x,xs[i]? = some x->rd x cs∧cD w b (off+i * z) cs:=fun i=>by
   cases hx:xs[i]? with
   | none=>exact ⟨[],fun x hx=>by cases hx⟩
   | some x=>
    obtain ⟨cs,q⟩:=h3 i x hx;exact ⟨cs,fun y hy=>by cases hy;exact q⟩
  let g:Nat->List Value:=fun i=>Classical.choose (hex i)
  have hg: ∀i x,xs[i]? = some x->rd x (g i)∧cD w b (off+i * z) (g i):=fun i x hx=>Classical.choose_spec (hex i) x hx
  have key: ∀(i j:Nat) row c,(xs.map enc)[i]? = some row->row[j]? = some c-> ∃y,(g i)[j]? = some y∧w.cell? ⟨b,off+i * z+j,none⟩=some y∧RA D nu [] w c y∧y.oneCell'=true:=by
   intro i j row c hi hj;rw [Vl] at hi
   cases hx:xs[i]? with
   | none=>rw [hx] at hi;cases hi
   | some x=>
    rw [hx] at hi;cases hi;obtain ⟨q1,q2⟩:=hg i x hx;obtain ⟨q3,q4⟩:=hrd x (VD hx) _ q1
    have hjl:j<(g i).length:=by rw [<-q3.1];exact (U4.1 hj).1
    have e:=Vi hjl;exact ⟨_,e,iK q2 j _ e,q3.2 j c _ hj e,q4 _ (VD e)⟩
  refine .aH z _ _ b off cap (fun i j=>(g i).getD j Go.undef) (by simp) (by simpa using h1) h2 (fun hne=> ?_) (fun i row hi=> ?_) (fun i j row c hi hj=> ?_) (fun i j row c hi hj=> ?_) (fun i j row c hi hj=> ?_)
  ·obtain ⟨x,xs',rfl⟩: ∃x xs',xs=x :: xs':=by
    cases xs with
    | nil=>exact absurd rfl hne
    | cons x xs'=>exact ⟨x,xs',rfl⟩
   obtain ⟨c,hc⟩: ∃c,(enc x)[0]? = some c:=⟨_,Vi (by rw [hlen x];exact hz)⟩;obtain ⟨y,_,q,_⟩:=key 0 0 (enc x) c (by simp) hc;have hlt:=jX q;exact ⟨hlt,bd _ _,hD _ _ _ _ rfl hlt⟩
  ·rw [Vl] at hi
   cases hx:xs[i]? with
   | none=>rw [hx] at hi;cases hi
   | some x=>rw [hx] at hi;cases hi;exact hlen x
  ·obtain ⟨y,q1,q2,_⟩:=key i j row c hi hj;rw [q2,getD_some q1]
  ·obtain ⟨y,q1,_,q3,_⟩:=key i j row c hi hj;rw [getD_some q1];exact q3
  ·obtain ⟨y,q1,_,_,q4⟩:=key i j row c hi hj;rw [getD_some q1];exact q4
theorem RA.qn (hD: ∀b,b<w.heap.size->D b) {α:Type} {z:Nat} (hz:0<z) {enc:α->List AV} {rd:α->List Value->Prop} {xs:List α} {v:Value} (h:dV w z rd xs v) (hlen: ∀x,(enc x).length=z)
  (hrd: ∀x,x∈xs-> ∀cs:List Value,rd x cs->Jk D nu [] w (enc x) cs∧ ∀y∈cs,y.oneCell'=true):RA D nu [] w (.aH z (xs.map enc) xs.length) v:=RA.yr hz (fun b _ _ _ _ hb=>hD b hb) h hlen hrd
theorem lk (vs:List Value):Jk D nu o w (vs.map AV.v) vs:=⟨by simp,fun j c x h1 h2=>by
 rw [Vl,h2] at h1;cases h1;exact .v x⟩
theorem yF {α:Type} {z:Nat} {rd:α->List Value->Prop} {xs:List α} {v:Value} (h:dV w z rd xs v):v.oneCell'=true:=by
 rcases h with ⟨rfl|⟨a,rfl⟩,_⟩|⟨b,off,cap,rfl,_⟩<;>rfl
theorem ID {l:List ByteArray} {v:Value} (hD: ∀b off n c,v = .slice (some ⟨b,off,none⟩) n c->D b) (h:mj w l v):RA D nu [] w (cg l) v:=
 RA.yr (by omega) (fun b off n c e _=>hD b off n c e) h (fun _=>rfl) (fun x _ cs hc=>by subst hc;exact ⟨lk [.string x],by simp [Value.oneCell']⟩)
theorem Gt (x:Ex):(bC x).length=3:=by rw [aN];rfl
theorem OW (hD: ∀b,b<w.heap.size->D b): ∀(x:Ex) (cs:List Value),dZ w x cs->Jk D nu [] w (bC x) cs∧ ∀y∈cs,y.oneCell'=true:=by
 intro x
 induction x using Ex.ind with
 | h k s l ih=>
  intro cs h;rw [dZ] at h;obtain ⟨sv,rfl,h⟩:=h;have h':=fS.1 h;have hs:=RA.qn (nu:=nu) hD (by omega:0<3) h' Gt (fun y hy cs hc=>ih y hy cs hc);have ho:=yF h';rw [bC,kO];refine ⟨⟨rfl,fun j c y h1 h2=> ?_⟩,by simp [Value.oneCell'] at ho ⊢; exact ho⟩
  match j,h1,h2 with
  | 0,h1,h2=>cases h1;cases h2;exact .v _
  | 1,h1,h2=>cases h1;cases h2;exact .v _
  | 2,h1,h2=>cases h1;cases h2;exact hs
  | j+3,h1,h2=>simp at h1
theorem J6 {D:Nat->Prop} {nu:Nat->Nat->Value} {w:World} {v:Value} (hro:RO D nu [] w) {e:Ending} {w':World} (h:Dj w v e w'):Df D nu [] w (fun r' o'=>r' = .v v∧o'=[]) e w':=by
 obtain ⟨rfl,hb⟩:=h;exact ⟨v,nu,[], .v v,rfl,aw hb,hro.below hb, .v v,rfl,rfl⟩
theorem ah.rV {f:FuncId} {args:List AV} {v:Value} (hc:df P f=true) (ha:bp 0 args=true) (h: ∀D nu w vargs,fE D nu [] w args vargs->Calls P f vargs w (Dj w v)):ah P f args (.v v):=
 ⟨⟨ha,rfl⟩,hc,fun D nu w vargs hro hra=>(h D nu w vargs hra).mono (fun e w' hr=>J6 hro hr)⟩
theorem ah.Cn {f:FuncId} {args:List AV} {l:List ByteArray} (hc:df P f=true) (ha:bp 0 args=true)
  (h: ∀D nu w vargs,fE D nu [] w args vargs->Calls P f vargs w (fun e w'=> ∃v,e = .returned v∧mj w' l v∧Below w.heap.size w w'∧ ∀b off n c,v = .slice (some ⟨b,off,none⟩) n c->w.heap.size<=b)):ah P f args (cg l):=
 ⟨⟨ha,by simp only [cg,AV.wf,dB]⟩,hc,fun D nu w vargs hro hra=>(h D nu w vargs hra).mono (fun e w' hr=>by
  obtain ⟨v,rfl,h1,hb,h2⟩:=hr
  exact ⟨v,nu,[],cg l,rfl,aw hb,hro.below hb,ID (fun b off n c e=>hro.up b (h2 b off n c e)) h1,rfl,rfl⟩)⟩
theorem ah.args {f:FuncId} {args args':List AV} {r:AV} (h:ah P f args r) (hw:bp 0 args'=true) (hl: ∀D nu w vargs,fE D nu [] w args' vargs->fE D nu [] w args vargs):ah P f args' r:=
 ⟨⟨hw,h.1.2⟩,h.2.1,fun D nu w vargs hro hra=>h.2.2 D nu w vargs hro (hl D nu w vargs hra)⟩
theorem di {a:AV} {vargs:Array Value} (h:fE D nu o w [a] vargs): ∃x,vargs = #[x]∧RA D nu o w a x:=by
 obtain ⟨x,hx⟩:=List.length_eq_one_iff.1 (by simpa using h.len.symm:vargs.toList.length=1)
 have e:vargs = #[x]:=by apply Array.ext';simpa using hx
 subst e;exact ⟨x,rfl,h.at' 0 a x rfl rfl⟩
theorem KW {a b:AV} {vargs:Array Value} (h:fE D nu o w [a,b] vargs): ∃x y,vargs = #[x,y]∧RA D nu o w a x∧RA D nu o w b y:=by
 have hl:vargs.toList.length=2:=by simpa using h.len.symm
 match hv:vargs.toList,hl with
 | [x,y],_=>
  have e:vargs = #[x,y]:=by apply Array.ext';simpa using hv
  subst e;exact ⟨x,y,rfl,h.at' 0 a x rfl rfl,h.at' 1 b y rfl rfl⟩
end
open Go.RowKit Go.ChangeShapes Go.Deep
def E3 (P:Program) (t:TypeId):Option (List (TypeId×Nat×Nat)):=match P.underlying t with
 | some (.struct fs)=>some (fs.toList.map fun f=>(f.type,f.offset,P.cellsOf f.type))
 | _=>none
section
variable {H:Type} {enc:TypeId×Value->H} {P:Program} {w:World}
def Td (enc:TypeId×Value->H) (P:Program) (w:World) (n:Nat) (t:TypeId) (cs:List Value):Prop:= ∃y,DataW.trod enc P w 0 (fun _=>true) true n t cs=some y∧ ∀k∈y.1.weights P t,k<=reachBytes
theorem pV {t:TypeId}: ∀ {l:List (DataW H)} {d:DataW H},d∈l-> ∀k∈d.weights P t,k∈DataW.weightsAll P t l
 | y :: l,d,hd,k,hk=>by
  rw [DataW.weightsAll,List.mem_append]
  rcases List.mem_cons.1 hd with rfl|hd
  ·exact .inl hk
  ·exact .inr (pV hd k hk)
theorem sF {n:Nat} {t:TypeId} {cs:List Value} (ht:P.underlying t=some (.int .i64)) (h:Td enc P w n t cs): ∃k,cs=[.int .i64 k]∧(Lit.int .i64 k).wf=true:=by
 obtain ⟨y,h,_⟩:=h;obtain ⟨k,rfl,_,hk⟩:=DataW.trod_int ht h;exact ⟨k,rfl,hk⟩
theorem po {n:Nat} {t:TypeId} {cs:List Value} (ht:P.underlying t=some .string) (h:Td enc P w n t cs): ∃s,cs=[.string s]∧tg s:=by
 obtain ⟨y,h,hy⟩:=h;obtain ⟨s,rfl,rfl,hs⟩:=DataW.trod_string ht h;refine ⟨s,rfl, ?_⟩
 have:=hy s.data.toList.length (by rw [DataW.weights];exact List.mem_singleton.2 rfl)
 unfold reachBytes at this;unfold tg;have e:s.size=s.data.toList.length:=rfl;omega
theorem ia {n:Nat} {t:TypeId} {cs:List Value} {l:List (TypeId×Nat×Nat)} (hs:E3 P t=some l) (h:Td enc P w n t cs) :
  ∃m,n=m+1∧cs.length=P.cellsOf t∧ ∀(i:Nat) T off sz,l[i]? = some (T,off,sz)->Td enc P w m T ((cs.drop off).take sz):=by
 obtain ⟨y,h,hy⟩:=h;unfold E3 at hs
 split at hs
 ·rename_i fs ht;cases hs;obtain ⟨xs,m,rfl,rfl,h1,h2,h3⟩:=DataW.trod_struct ht h;refine ⟨m,rfl,h1,fun i T off sz hi=> ?_⟩;rw [Vl] at hi
  cases hf:fs[i]? with
  | none=>simp [hf] at hi
  | some f=>
   simp [hf] at hi;obtain ⟨rfl,rfl,rfl⟩:=hi
   have:=h3 i f hf
   have hlt:i<xs.length:=by rw [h2];exact (Array.getElem?_eq_some_iff.1 hf).1
   rw [Vi hlt] at this;refine ⟨_,this,fun k hk=>hy k ?_⟩;simp only [DataW.weights,ht];exact DataW.weights_mem_each (j:=i) (t:=f.type) (d:=xs[i].1) (by simp [hf]) (by simp [hlt]) k hk
 ·cases hs
theorem wu {α:Type} [Inhabited α] {n:Nat} {t e:TypeId} {z:Nat} {v:Value} {rd:α->List Value->Prop} {okx:α->Prop} (ht:P.underlying t=some (.slice e)) (hz:P.cellsOf e=z) (hz0:0<z) (hby:0<P.bytesOf e)
  (h:Td enc P w n t [v]) (hrd: ∀m cs,n=m+1->Td enc P w m e cs-> ∃x,rd x cs∧okx x): ∃xs:List α,dV w z rd xs v∧(∀x,x∈xs->okx x)∧xs.length<=140737488355328:=by
 obtain ⟨y,h,hy⟩:=h
 rcases DataW.trod_slice ht h with ⟨h0,_⟩|⟨a,len,cap,elems,rest,m,rfl,h0,rfl,hb,hl,hm,hlen,hel,hsp,_⟩
 ·cases h0;exact ⟨[], .inl ⟨.inl rfl,rfl⟩,fun x hx=>(by cases hx),by simp⟩
 ·cases h0;rw [hz] at hel hsp;obtain ⟨hrl,hre⟩:=hsp rfl;have hw:=hy ((elems.length+rest.length) * P.bytesOf e) (by simp [DataW.weights,ht])
  have hln:len<=140737488355328:=by
   unfold reachBytes at hw
   have:elems.length+rest.length<=(elems.length+rest.length) * P.bytesOf e:=Nat.le_mul_of_pos_right _ hby
   omega
  by_cases hc:cap=0
  ·subst hc
   obtain rfl:len=0:=by omega
   exact ⟨[], .inl ⟨.inr ⟨a,rfl⟩,rfl⟩,fun x hx=>(by cases hx),by simp⟩
  ·have hspot:a.spot=none:=by
    have k: ∃u,((w.cells? 0 (a.add (0 * z)) z).bind (DataW.trod enc P w 0 (fun _=>true) true m e))=some u:=by
     rcases Nat.eq_zero_or_pos len with q|q
     ·subst q
      have:=hre 0 (by omega)
      rw [Vi (by omega)] at this;exact ⟨_,this⟩
     ·have:=hel 0 q
      rw [Vi (by omega)] at this;exact ⟨_,this⟩
    obtain ⟨u,hu⟩:=k;obtain ⟨cs,h1,_⟩:=Wi.1 hu;obtain ⟨_,h2,h3⟩:=World.cells?_some h1;have h4:=h3 0 hz0;rw [Vi (by omega)] at h4
    have:=World.cell?_spot h4
    simpa [Addr.add] using this
   obtain ⟨b,o,sp⟩:=a;cases hspot
   have hx: ∀i,i<len-> ∃x:α,okx x∧ ∃cs,rd x cs∧cD w b (o+i * z) cs:=fun i hi=>by
    have h1:=hel i hi;rw [Vi (by omega)] at h1;obtain ⟨cs,h2,h3⟩:=Wi.1 h1
    obtain ⟨x,q1,q2⟩:=hrd m cs rfl ⟨_,h3,fun k hk=>hy k (by
     simp only [DataW.weights,ht]
     refine List.mem_cons_of_mem _ (List.mem_append_left _ (pV (List.mem_map_of_mem (List.getElem_mem (l:=elems) (n:=i) (by omega))) k hk)))⟩
    obtain ⟨_,h4,h5⟩:=World.cells?_some h2;refine ⟨x,q2,cs,q1, ?_⟩
    have key: ∀(l:List Value) (off:Nat),(∀(j:Nat) v,l[j]? = some v->w.cell? ⟨b,off+j,none⟩=some v)->cD w b off l:=by
     intro l
     induction l with
     | nil=>exact fun _ _=>trivial
     | cons y l ih=>exact fun off h=>⟨by simpa using h 0 y rfl,ih (off+1) (fun j v hj=>by rw [show off+1+j=off+(j+1) by omega];exact h (j+1) v (by simpa using hj))⟩
    refine key cs _ (fun j v hj=> ?_);have hjl:=(U4.1 hj).1;have h6:=h5 j (by omega);rw [hj,Addr.add_lit,Addr.add_lit] at h6;exact h6
   obtain ⟨f,hf⟩:=choose_lt hx
   refine ⟨(List.range len).map f, .inr ⟨b,o,cap,by simp,by simpa using hl,hm,fun i x hi=> ?_⟩,fun x hx=> ?_,by simp;omega⟩
   ·rw [Vl] at hi
    have hil:i<len:=by
     rcases U6 i len with q|q
     ·exact q
     ·rw [Vn (by simpa using q)] at hi;cases hi
    rw [Vm hil] at hi;cases hi;exact (hf i hil).2
   ·obtain ⟨i,hi,rfl⟩:=List.mem_map.1 hx;exact (hf i (List.mem_range.1 hi)).1
end
section
variable {H:Type} {enc:TypeId×Value->H} {w:World}
instance:Inhabited Ex:=⟨.mk 0 ⟨#[]⟩ []⟩
instance:Inhabited sY:=⟨⟨0,⟨#[]⟩,⟨#[]⟩,⟨0,0,⟨#[]⟩⟩⟩⟩
instance:Inhabited BD:=⟨⟨0,default,default⟩⟩
instance:Inhabited l7:=⟨⟨⟨#[]⟩,⟨#[]⟩,false,⟨#[]⟩,⟨#[]⟩,default⟩⟩
theorem Qq:Tryz.prog.underlying 3=some (.int .i64):=by kernel_rfl
theorem E7:Tryz.prog.underlying 9=some .string:=by kernel_rfl
theorem UO:Tryz.prog.underlying 169=some (.int .i64):=by kernel_rfl
theorem UN:Tryz.prog.underlying 22=some (.int .i64):=by kernel_rfl
theorem Se:E3 Tryz.prog 171=some [(169,0,1),(3,1,1),(9,2,1)]:=by kernel_rfl
theorem RW:Tryz.prog.cellsOf 171=3:=by kernel_rfl
theorem TD:E3 Tryz.prog 25=some [(22,0,1),(9,1,1),(23,2,1)]:=by kernel_rfl
theorem RV:Tryz.prog.cellsOf 25=3:=by kernel_rfl
theorem S6:Tryz.prog.underlying 23=some (.slice 25):=by kernel_rfl
theorem Uo:0<Tryz.prog.bytesOf 25:=of_decide_eq_true (by kernel_rfl)
theorem Nx {n:Nat} {cs:List Value} (h:Td enc Tryz.prog w n 171 cs): ∃x:zE,cs=x.cells∧x.ok:=by
 obtain ⟨m,_,hl,hf⟩:=ia Se h;rw [RW] at hl
 match cs,hl with
 | [a,b,c],_=>
  obtain ⟨k,e0,_⟩:=sF UO (hf 0 _ _ _ rfl);obtain ⟨l,e1,_⟩:=sF Qq (hf 1 _ _ _ rfl);obtain ⟨s,e2,hs⟩:=po E7 (hf 2 _ _ _ rfl);cases e0;cases e1;cases e2;exact ⟨⟨k,l,s⟩,rfl,hs⟩
theorem Qn: ∀(n:Nat) {cs:List Value},Td enc Tryz.prog w n 25 cs-> ∃x:Ex,dZ w x cs∧x.ok:=by
 intro n
 induction n using Nat.strongRecOn with
 | _ n ih=>
  intro cs h;obtain ⟨m,rfl,hl,hf⟩:=ia TD h;rw [RV] at hl
  obtain ⟨a,b,c,rfl⟩: ∃a b c,cs=[a,b,c]:=by
   rcases cs with _|⟨a,_|⟨b,_|⟨c,_|⟨d,cs⟩⟩⟩⟩
   ·cases hl
   ·cases hl
   ·cases hl
   ·exact ⟨a,b,c,rfl⟩
   ·simp at hl
  obtain ⟨k,e0,_⟩:=sF UN (hf 0 _ _ _ rfl);obtain ⟨s,e1,h1⟩:=po E7 (hf 1 _ _ _ rfl);obtain ⟨xs,h2,h3,_⟩:=wu S6 RV (by omega) Uo (hf 2 _ _ _ rfl) (rd:=dZ w) (okx:=Ex.ok) (fun m' cs' hm hx=>ih m' (by omega) hx);cases e0;cases e1;exact ⟨.mk k s xs,by rw [dZ];exact ⟨_,rfl,fS.2 h2⟩,by rw [Ex.ok];exact ⟨h1,oV.2 h3⟩⟩
end
open Go.ChangeShapes Go.WideShapes Go.ChangeAt Go.RowKit
theorem ah.Nz {P:Program} {f:FuncId} {args:List AV} {v:Value} (h:ah P f args (.v v)) {w:World} {vargs:Array Value} (hr:fE (fun _=>True) (fun _ _=>Go.undef) [] w args vargs) (hG:dU (fun _=>True) (fun _ _=>Go.undef) [] w:=by exact fun g T cs hg=>by cases hg) :
  Calls P f vargs w (Dj w v):=by
 refine (h.2.2 _ _ w vargs (RO.nil _ _ _ (fun _ _=>trivial) hG) hr).mono fun e w' hf=> ?_;obtain ⟨x,nu',o',r,rfl,hm,_,hx,rfl,rfl⟩:=hf;have e1:=hx.b5;subst e1;exact ⟨rfl,hm.os,hm.tape,hm.output,hm.size,fun b hb=>(hm.keep b hb (bd _ _)).1⟩
section
variable {H:Type} {enc:TypeId×Value->H} {w:World}
end
open Go.ChangeShapes Go.WideShapes Go.ChangeAt Go.RowKit
section
variable {H:Type} {enc:TypeId×Value->H} {w:World}
theorem Lj {v:Value} {d:DataW H} {ps:List MemPlace} (h:DataW.Trod enc Tryz.prog w 0 (fun _=>true) true 25 v d ps) (hw: ∀k∈d.weights Tryz.prog 25,k<=reachBytes) :
  ∃(x:Ex) (cx:List Value),v = .agg cx.toArray∧dZ w x cx∧x.ok:=by
 obtain ⟨n,h⟩:=h;have ht:Td enc Tryz.prog w n 25 v.cells.toList:=⟨_,h,hw⟩;obtain ⟨m,_,hl,_⟩:=ia TD ht;rw [RV] at hl;obtain ⟨x,h1,h2⟩:=Qn n ht
 cases v with
 | agg cs=>exact ⟨x,cs.toList,by simp,h1,h2⟩
 | _=>simp [Value.cells] at hl
theorem Gw {D:Nat->Prop} {nu:Nat->Nat->Value} (hD: ∀b,b<w.heap.size->D b) {x:Ex} {cx:List Value} (h:dZ w x cx):RA D nu [] w (.agg (bC x)) (.agg cx.toArray):=by
 obtain ⟨h1,h2⟩:=OW (nu:=nu) hD x cx h;exact .agg _ _ (by simpa using h1.1) (fun i c y hc hy=>h1.2 i c y hc (by simpa using hy)) (fun i y hy=>h2 y (VD (by simpa using hy)))
end
end
inductive bF (L:List ByteArray->Prop):List ByteArray->Prop
 | nil:bF L []
 | cons (u v:List ByteArray):u≠[]->L u->bF L v->bF L (u++v)
theorem bF.append {L:List ByteArray->Prop} {u v:List ByteArray} (h:bF L u) (k:bF L v):bF L (u++v):=by
 induction h with
 | nil=>exact k
 | cons a b h1 h2 _ ih=>rw [List.append_assoc];exact .cons a _ h1 h2 ih
theorem bF.one {L:List ByteArray->Prop} {u:List ByteArray} (h:L u):bF L u:=by
 by_cases hu:u=[]
 ·subst hu;exact .nil
 ·have:=bF.cons u [] hu h .nil
  rwa [Wj] at this
theorem bF.inv {L:List ByteArray->Prop} {w:List ByteArray} (h:bF L w):w=[]∨ ∃u v,w=u++v∧u≠[]∧L u∧bF L v:=by
 cases h with
 | nil=>exact .inl rfl
 | cons a b h1 h2 h3=>exact .inr ⟨a,b,rfl,h1,h2,h3⟩
mutual
def Lg:Ex->List ByteArray->Prop
 | .mk k s l,w=>if k=1 then w=[s] else if k=2 then bT l w else if k=3 then l6 l w else if k=4 then bF (pW l) w
  else if k=5 then ∃u v,w=u++v∧pW l u∧bF (pW l) v else if k=6 then w=[]∨pW l w else False
def bT:List Ex->List ByteArray->Prop
 | [],w=>w=[]
 | x :: xs,w=> ∃u v,w=u++v∧Lg x u∧bT xs v
def l6:List Ex->List ByteArray->Prop
 | [],_=>False
 | x :: xs,w=>Lg x w∨l6 xs w
def pW:List Ex->List ByteArray->Prop
 | [],_=>False
 | x :: _,w=>Lg x w
end
theorem oA: ∀ {l:List Ex} {w:List ByteArray},l6 l w ↔ ∃x∈l,Lg x w
 | [],w=>by simp [l6]
 | x :: xs,w=>by simp [l6,oA (l:=xs)]
mutual
def bb:Ex->Bool
 | .mk k _ l=>if k=4 then true else if k=6 then true else if k=3 then qh l else if k=2 then cY l else if k=5 then cY l else false
def qh:List Ex->Bool
 | []=>false
 | x :: xs=>bb x||qh xs
def cY:List Ex->Bool
 | []=>true
 | x :: xs=>bb x&&cY xs
end
theorem mD: ∀l:List Ex,qh l=l.any bb
 | []=>rfl
 | x :: xs=>by rw [qh,mD xs];rfl
theorem jP: ∀l:List Ex,cY l=l.all bb
 | []=>rfl
 | x :: xs=>by rw [cY,jP xs];rfl
theorem lA: ∀ {l:List Ex},bT l [] ↔ ∀x∈l,Lg x []
 | []=>by simp [bT]
 | x :: xs=>by
  rw [bT]
  constructor
  ·rintro ⟨u,v,h,h1,h2⟩;obtain ⟨rfl,rfl⟩:=Wl.1 h.symm;intro y hy
   rcases List.mem_cons.1 hy with rfl|hy
   ·exact h1
   ·exact lA.1 h2 y hy
  ·intro h;exact ⟨[],[],rfl,h x V4,lA.2 (fun y hy=>h y (V2 _ hy))⟩
inductive Fit:Ex->Prop
 | lab (s:ByteArray):Fit (.mk 1 s [])
 | many (k:Int) (s:ByteArray) (l:List Ex):(k=2∨k=3)->1<l.length->(∀x∈l,Fit x)->Fit (.mk k s l)
 | one (k:Int) (s:ByteArray) (x:Ex):(k=4∨k=5∨k=6)->Fit x->Fit (.mk k s [x])
theorem iL {x:Ex} (h:Fit x):bb x=true↔Lg x []:=by
 induction h with
 | lab s=>simp [bb,Lg]
 | many k s l hk hl _ ih=>
  rcases hk with rfl|rfl
  ·simp only [bb,Lg,jP,lA,Int.reduceEq,if_false,if_true];rw [List.all_eq_true]
   constructor
   ·intro h x hx;exact (ih x hx).1 (h x hx)
   ·intro h x hx;exact (ih x hx).2 (h x hx)
  ·simp only [bb,Lg,mD,oA,List.any_eq_true,Int.reduceEq,if_false,if_true]
   constructor
   ·rintro ⟨x,hx,h⟩;exact ⟨x,hx,(ih x hx).1 h⟩
   ·rintro ⟨x,hx,h⟩;exact ⟨x,hx,(ih x hx).2 h⟩
 | one k s x hk _ ih=>
  rcases hk with rfl|rfl|rfl
  ·simp [bb,Lg,bF.nil]
  ·simp only [bb,Lg,cY,pW,Int.reduceEq,if_false,if_true,Bool.and_true];rw [ih]
   constructor
   ·intro h;exact ⟨[],[],rfl,h, .nil⟩
   ·rintro ⟨u,v,h,h1,_⟩;obtain ⟨rfl,rfl⟩:=Wl.1 h.symm;exact h1
  ·simp [bb,Lg]
def vj (w:List ByteArray) (i j:Nat):List ByteArray:=(w.drop i).take (j - i)
theorem nk (w:List ByteArray) (i:Nat):vj w i i=[]:=by simp [vj]
theorem qe {w:List ByteArray} {i j k:Nat} (h1:i<=j) (h2:j<=k):vj w i j++vj w j k=vj w i k:=by
 unfold vj
 have:k - i=(j - i)+(k - j):=by omega
 rw [this,List.take_add,List.drop_drop,show i+(j - i)=j by omega]
theorem lE {w:List ByteArray} {i j:Nat} (h:j<=w.length):(vj w i j).length=j - i:=by
 simp [vj];omega
theorem qU {w u v:List ByteArray} {i k:Nat} (h1:i<=k) (h2:k<=w.length) (h:vj w i k=u++v): ∃j,i<=j∧j<=k∧vj w i j=u∧vj w j k=v:=by
 have hl:=lE (i:=i) h2;rw [h,U8] at hl;have e:=qe (w:=w) (i:=i) (j:=i+u.length) (k:=k) (by omega) (by omega);rw [h] at e
 have el:(vj w i (i+u.length)).length=u.length:=by rw [lE (by omega)];omega
 obtain ⟨e1,e2⟩:=List.append_inj e el;exact ⟨i+u.length,by omega,by omega,e1,e2⟩
def Tk (L:List ByteArray->Prop) (w:List ByteArray) (i j:Nat):Prop:=i<=j∧j<=w.length∧L (vj w i j)
theorem Tk.CA {w:List ByteArray} {i k:Nat}:Tk (bT []) w i k↔i=k∧k<=w.length:=by
 constructor
 ·rintro ⟨h1,h2,h3⟩;rw [bT] at h3
  have:=lE (i:=i) h2
  rw [h3] at this;simp at this;exact ⟨by omega,h2⟩
 ·rintro ⟨rfl,h⟩;exact ⟨Nat.le_refl _,h,by rw [bT,nk]⟩
theorem lz: ∀ {l m:List Ex} {w:List ByteArray},bT (l++m) w ↔ ∃u v,w=u++v∧bT l u∧bT m v
 | [],m,w=>by
  constructor
  ·intro h;exact ⟨[],w,rfl,by rw [bT],h⟩
  ·rintro ⟨u,v,rfl,h,k⟩;rw [bT] at h;subst h;exact k
 | x :: l,m,w=>by
  rw [List.cons_append,bT]
  constructor
  ·rintro ⟨u,v,rfl,h1,h2⟩;obtain ⟨a,b,rfl,h3,h4⟩:=lz.1 h2;exact ⟨u++a,b,by simp,by rw [bT];exact ⟨u,a,rfl,h1,h3⟩,h4⟩
  ·rintro ⟨u,v,rfl,h,k⟩;rw [bT] at h;obtain ⟨a,b,rfl,h1,h2⟩:=h;exact ⟨a,b++v,by simp,h1,lz.2 ⟨b,v,rfl,h2,k⟩⟩
theorem Tk.yN {x:Ex} {xs:List Ex} {w:List ByteArray} {i k:Nat}:Tk (bT (xs++[x])) w i k ↔ ∃j,Tk (bT xs) w i j∧Tk (Lg x) w j k:=by
 constructor
 ·rintro ⟨h1,h2,h3⟩;obtain ⟨u,v,h,h4,h5⟩:=lz.1 h3;obtain ⟨j,k1,k2,rfl,rfl⟩:=qU h1 h2 h;rw [bT] at h5;obtain ⟨a,b,e,h6,h7⟩:=h5;rw [bT] at h7;subst h7;rw [Wj] at e;subst e;exact ⟨j,⟨k1,by omega,h4⟩,⟨k2,h2,h6⟩⟩
 ·rintro ⟨j,⟨h1,h2,h3⟩,⟨h4,h5,h6⟩⟩;refine ⟨by omega,h5,lz.2 ⟨_,_,(qe h1 h4).symm,h3, ?_⟩⟩;rw [bT];exact ⟨_,[],by simp,h6,by rw [bT]⟩
theorem Tk.E1 {L:List ByteArray->Prop} {w:List ByteArray} {i:Nat} (h:i<=w.length):Tk (bF L) w i i:=⟨Nat.le_refl _,h,by rw [nk];exact .nil⟩
theorem Tk.Iz {L:List ByteArray->Prop} {w:List ByteArray} {i j:Nat} (h:Tk L w i j):Tk (bF L) w i j:=⟨h.1,h.2.1, .one h.2.2⟩
theorem Tk.Bq {L:List ByteArray->Prop} {w:List ByteArray} {i j k:Nat} (h:Tk (bF L) w i j) (h':Tk (bF L) w j k):Tk (bF L) w i k:=
 ⟨Nat.le_trans h.1 h'.1,h'.2.1,by rw [<-qe h.1 h'.1];exact h.2.2.append h'.2.2⟩
theorem Tk.Iy {L:List ByteArray->Prop} {w:List ByteArray} {i k:Nat} (h:Tk (bF L) w i k):i=k∨ ∃j,i<j∧Tk L w i j∧Tk (bF L) w j k:=by
 obtain ⟨h1,h2,h3⟩:=h
 rcases h3.inv with e|⟨u,v,e,hu,h4,h5⟩
 ·have:=lE (i:=i) h2
  rw [e] at this;simp at this;left;omega
 ·right;obtain ⟨j,k1,k2,rfl,rfl⟩:=qU h1 h2 e;refine ⟨j, ?_,⟨k1,by omega,h4⟩,⟨k2,h2,h5⟩⟩
  rcases Nat.lt_or_ge i j with q|q
  ·exact q
  ·obtain rfl:i=j:=by omega
   rw [nk] at hu;exact absurd rfl hu
theorem Tk.yR {L:List ByteArray->Prop} {w:List ByteArray} (S:Nat->Prop) (hS: ∀i j,S i->Tk L w i j->S j) {i k:Nat} (hi:S i) (h:Tk (bF L) w i k):S k:=by
 generalize hn:k - i=n
 induction n using Nat.strongRecOn generalizing i with
 | ind n ih=>
  rcases h.Iy with rfl|⟨j,hj,h1,h2⟩
  ·exact hi
  ·have:=h2.1
   exact ih (k - j) (by omega) (hS i j hi h1) h2 rfl
theorem Tk.word {L:List ByteArray->Prop} {w:List ByteArray}:Tk L w 0 w.length↔L w:=by
 simp [Tk,vj]
mutual
def bj:Ex->List ByteArray
 | .mk k s l=>if k=1 then [s] else aP l
def aP:List Ex->List ByteArray
 | []=>[]
 | x :: xs=>bj x++aP xs
end
mutual
def ly:Ex->Nat->Nat->Prop
 | .mk k _ l,b,p=>if k=1 then p=b+1 else if k=2 then gw l b p else fW l b p
def gw:List Ex->Nat->Nat->Prop
 | [],_,_=>False
 | x :: xs,b,p=>ly x b p∨(bb x=true∧gw xs (b+(bj x).length) p)
def fW:List Ex->Nat->Nat->Prop
 | [],_,_=>False
 | x :: xs,b,p=>ly x b p∨fW xs (b+(bj x).length) p
end
mutual
def jA:Ex->Nat->Nat->Prop
 | .mk k _ l,b,p=>if k=1 then p=b+1 else if k=2 then je l b p else fX l b p
def je:List Ex->Nat->Nat->Prop
 | [],_,_=>False
 | x :: xs,b,p=>(cY xs=true∧jA x b p)∨je xs (b+(bj x).length) p
def fX:List Ex->Nat->Nat->Prop
 | [],_,_=>False
 | x :: xs,b,p=>jA x b p∨fX xs (b+(bj x).length) p
end
mutual
def jd:Ex->Nat->Nat->Nat->Prop
 | .mk k _ l,b,p,q=>if k=1 then False else if k=2 then gv l b p q else iA l b p q∨((k=4∨k=5)∧fX l b p∧fW l b q)
def gv:List Ex->Nat->Nat->Nat->Prop
 | [],_,_,_=>False
 | x :: xs,b,p,q=>jd x b p q∨gv xs (b+(bj x).length) p q∨(jA x b p∧gw xs (b+(bj x).length) q)
def iA:List Ex->Nat->Nat->Nat->Prop
 | [],_,_,_=>False
 | x :: xs,b,p,q=>jd x b p q∨iA xs (b+(bj x).length) p q
end
theorem oz: ∀ {l:List Ex} {b p:Nat},gw l b p->fW l b p
 | [],_,_,h=>h
 | x :: xs,b,p,h=>by
  rw [gw] at h;rw [fW];exact h.imp id (fun h=>oz h.2)
theorem uW: ∀ {l:List Ex} {b p:Nat},je l b p->fX l b p
 | [],_,_,h=>h
 | x :: xs,b,p,h=>by
  rw [je] at h;rw [fX];exact h.imp (fun h=>h.2) uW
theorem dA {k:Int} (h:k≠1) (s:ByteArray) (l:List Ex):bj (.mk k s l)=aP l:=by rw [bj,if_neg h]
theorem fI (x:Ex): ∀ {b p:Nat},ly x b p->b<p∧p<=b+(bj x).length:=by
 induction x using Ex.ind with
 | h k s l ih=>
  intro b p h
  have key: ∀(m:List Ex),(∀x∈m,x∈l)-> ∀ {b p:Nat},fW m b p->b<p∧p<=b+(aP m).length:=by
   intro m
   induction m with
   | nil=>intro _ b p h;exact h.elim
   | cons x xs ihm=>
    intro hm b p h;rw [fW] at h;rw [aP,U8]
    rcases h with h|h
    ·have:=ih x (hm x V4) h;omega
    ·have:=ihm (fun y hy=>hm y (V2 _ hy)) h;omega
  rw [ly] at h
  by_cases h1:k=1
  ·rw [if_pos h1] at h;rw [bj,if_pos h1];simp;omega
  ·rw [if_neg h1] at h;rw [dA h1]
   split at h
   ·exact key l (fun _ h=>h) (oz h)
   ·exact key l (fun _ h=>h) h
theorem eu: ∀ {l:List Ex} {b p:Nat},fW l b p->b<p∧p<=b+(aP l).length
 | [],b,p,h=>h.elim
 | x :: xs,b,p,h=>by
  rw [fW] at h;rw [aP,U8]
  rcases h with h|h
  ·have:=fI x h;omega
  ·have:=eu h;omega
theorem eX (x:Ex): ∀ {b p:Nat},jA x b p->b<p∧p<=b+(bj x).length:=by
 induction x using Ex.ind with
 | h k s l ih=>
  intro b p h
  have key: ∀(m:List Ex),(∀x∈m,x∈l)-> ∀ {b p:Nat},fX m b p->b<p∧p<=b+(aP m).length:=by
   intro m
   induction m with
   | nil=>intro _ b p h;exact h.elim
   | cons x xs ihm=>
    intro hm b p h;rw [fX] at h;rw [aP,U8]
    rcases h with h|h
    ·have:=ih x (hm x V4) h;omega
    ·have:=ihm (fun y hy=>hm y (V2 _ hy)) h;omega
  rw [jA] at h
  by_cases h1:k=1
  ·rw [if_pos h1] at h;rw [bj,if_pos h1];simp;omega
  ·rw [if_neg h1] at h;rw [dA h1]
   split at h
   ·exact key l (fun _ h=>h) (uW h)
   ·exact key l (fun _ h=>h) h
theorem ew: ∀ {l:List Ex} {b p:Nat},fX l b p->b<p∧p<=b+(aP l).length
 | [],b,p,h=>h.elim
 | x :: xs,b,p,h=>by
  rw [fX] at h;rw [aP,U8]
  rcases h with h|h
  ·have:=eX x h;omega
  ·have:=ew h;omega
theorem dr (x:Ex): ∀ {b p q:Nat},jd x b p q->(b<p∧p<=b+(bj x).length)∧b<q∧q<=b+(bj x).length:=by
 induction x using Ex.ind with
 | h k s l ih=>
  intro b p q h
  have key: ∀(m:List Ex),(∀x∈m,x∈l)-> ∀ {b p q:Nat},iA m b p q->(b<p∧p<=b+(aP m).length)∧b<q∧q<=b+(aP m).length:=by
   intro m
   induction m with
   | nil=>intro _ b p q h;exact h.elim
   | cons x xs ihm=>
    intro hm b p q h;rw [iA] at h;rw [aP,U8]
    rcases h with h|h
    ·have:=ih x (hm x V4) h;omega
    ·have:=ihm (fun y hy=>hm y (V2 _ hy)) h;omega
  have keyS: ∀(m:List Ex),(∀x∈m,x∈l)-> ∀ {b p q:Nat},gv m b p q->(b<p∧p<=b+(aP m).length)∧b<q∧q<=b+(aP m).length:=by
   intro m
   induction m with
   | nil=>intro _ b p q h;exact h.elim
   | cons x xs ihm=>
    intro hm b p q h;rw [gv] at h;rw [aP,U8]
    rcases h with h|h|⟨h,h'⟩
    ·have:=ih x (hm x V4) h;omega
    ·have:=ihm (fun y hy=>hm y (V2 _ hy)) h;omega
    ·have:=eX x h;have:=eu (oz h');omega
  rw [jd] at h
  by_cases h1:k=1
  ·rw [if_pos h1] at h;exact h.elim
  ·rw [if_neg h1] at h;rw [dA h1]
   split at h
   ·exact keyS l (fun _ h=>h) h
   ·rcases h with h|⟨_,h,h'⟩
    ·exact key l (fun _ h=>h) h
    ·exact ⟨ew h,eu h'⟩
theorem mi: ∀ {l:List Ex} {b p q:Nat},gv l b p q->(b<p∧p<=b+(aP l).length)∧b<q∧q<=b+(aP l).length
 | [],b,p,q,h=>h.elim
 | x :: xs,b,p,q,h=>by
  rw [gv] at h;rw [aP,U8]
  rcases h with h|h|⟨h,h'⟩
  ·have:=dr x h;omega
  ·have:=mi h;omega
  ·have:=eX x h;have:=eu (oz h');omega
theorem mh: ∀ {l:List Ex} {b p q:Nat},iA l b p q->(b<p∧p<=b+(aP l).length)∧b<q∧q<=b+(aP l).length
 | [],b,p,q,h=>h.elim
 | x :: xs,b,p,q,h=>by
  rw [iA] at h;rw [aP,U8]
  rcases h with h|h
  ·have:=dr x h;omega
  ·have:=mh h;omega
def a7 (F:Nat->Nat->Prop) (g:Nat->ByteArray):Nat->List ByteArray->Nat->Prop
 | p,[],q=>p=q
 | p,a :: w,q=> ∃r,F p r∧g r=a∧a7 F g r w q
theorem a7.imp {F G:Nat->Nat->Prop} {g:Nat->ByteArray} (h: ∀p q,F p q->G p q): ∀ {w:List ByteArray} {p q:Nat},a7 F g p w q->a7 G g p w q
 | [],_,_,hc=>hc
 | _ :: _,_,_,⟨r,h1,h2,h3⟩=>⟨r,h _ _ h1,h2,h3.imp h⟩
theorem a7.app {F:Nat->Nat->Prop} {g:Nat->ByteArray}: ∀ {u v:List ByteArray} {p q:Nat},a7 F g p (u++v) q ↔ ∃r,a7 F g p u r∧a7 F g r v q
 | [],v,p,q=>⟨fun h=>⟨p,rfl,h⟩,fun ⟨_,h,k⟩=>by cases h;exact k⟩
 | a :: u,v,p,q=>by
  constructor
  ·rintro ⟨r,h1,h2,h3⟩;obtain ⟨s,h4,h5⟩:=a7.app.1 h3;exact ⟨s,⟨r,h1,h2,h4⟩,h5⟩
  ·rintro ⟨s,⟨r,h1,h2,h4⟩,h5⟩;exact ⟨r,h1,h2,a7.app.2 ⟨s,h4,h5⟩⟩
def ct (I:Nat->Prop) (F:Nat->Nat->Prop) (T:Nat->Prop) (g:Nat->ByteArray):List ByteArray->Prop
 | []=>False
 | a :: w=> ∃p q,I p∧g p=a∧a7 F g p w q∧T q
theorem a7.split {F G:Nat->Nat->Prop} {I T:Nat->Prop} {g:Nat->ByteArray} (hG: ∀p q,G p q->F p q∨(T p∧I q)): ∀ {w:List ByteArray} {p q:Nat},a7 G g p w q ->
  a7 F g p w q∨ ∃u a v r s,w=u++a :: v∧a7 F g p u r∧T r∧I s∧g s=a∧a7 G g s v q
 | [],_,_,h=> .inl h
 | a :: w,p,q,⟨r,h1,h2,h3⟩=>by
  rcases hG p r h1 with h|⟨h,k⟩
  ·rcases a7.split hG h3 with h4|⟨u,b,v,r',s,rfl,h4,h5,h6,h7,h8⟩
   ·exact .inl ⟨r,h,h2,h4⟩
   ·exact .inr ⟨a :: u,b,v,r',s,rfl,⟨r,h,h2,h4⟩,h5,h6,h7,h8⟩
  ·exact .inr ⟨[],a,w,p,r,rfl,rfl,h,k,h2,h3⟩
theorem a7.stay {F G:Nat->Nat->Prop} {S:Nat->Prop} {g:Nat->ByteArray} (hG: ∀p q,S p->G p q->F p q∧S q): ∀ {w:List ByteArray} {p q:Nat},S p->a7 G g p w q->a7 F g p w q∧S q
 | [],_,_,hs,h=>by cases h;exact ⟨rfl,hs⟩
 | a :: w,p,q,hs,⟨r,h1,h2,h3⟩=>by
  obtain ⟨h4,h5⟩:=hG p r hs h1;obtain ⟨h6,h7⟩:=a7.stay hG h5 h3;exact ⟨⟨r,h4,h2,h6⟩,h7⟩
def l5 (ls:List ByteArray) (b:Nat) (g:Nat->ByteArray):Prop:= ∀(i:Nat) s,ls[i]? = some s->g (b+1+i)=s
theorem l5.left {l m:List ByteArray} {b:Nat} {g:Nat->ByteArray} (h:l5 (l++m) b g):l5 l b g:=fun i s hi=>h i s (by rw [List.getElem?_append_left (List.getElem?_eq_some_iff.1 hi).1];exact hi)
theorem l5.right {l m:List ByteArray} {b:Nat} {g:Nat->ByteArray} (h:l5 (l++m) b g):l5 m (b+l.length) g:=fun i s hi=>by
 have:=h (l.length+i) s (by rw [List.getElem?_append_right (by omega),Nat.add_sub_cancel_left];exact hi)
 rw [<-this];congr 1;omega
theorem a7.Iw {F G:Nat->Nat->Prop} {I T S:Nat->Prop} {g:Nat->ByteArray} (hG: ∀p q,S p->G p q->(F p q∧S q)∨(T p∧I q)): ∀ {w:List ByteArray} {p q:Nat},S p->a7 G g p w q ->
  (a7 F g p w q∧S q)∨ ∃u a v r s,w=u++a :: v∧a7 F g p u r∧T r∧I s∧g s=a∧a7 G g s v q
 | [],_,_,hs,h=> .inl ⟨h,by cases h;exact hs⟩
 | a :: w,p,q,hs,⟨r,h1,h2,h3⟩=>by
  rcases hG p r hs h1 with ⟨h,k⟩|⟨h,k⟩
  ·rcases a7.Iw hG k h3 with ⟨h4,h5⟩|⟨u,b,v,r',s,rfl,h4,h5,h6,h7,h8⟩
   ·exact .inl ⟨⟨r,h,h2,h4⟩,h5⟩
   ·exact .inr ⟨a :: u,b,v,r',s,rfl,⟨r,h,h2,h4⟩,h5,h6,h7,h8⟩
  ·exact .inr ⟨[],a,w,p,r,rfl,rfl,h,k,h2,h3⟩
theorem Hw {x:Ex} {xs:List Ex} {b:Nat} {g:Nat->ByteArray} {w:List ByteArray} (hw:w≠[]) :
  ct (gw (x :: xs) b) (gv (x :: xs) b) (je (x :: xs) b) g w ↔
   (ct (ly x b) (jd x b) (jA x b) g w∧cY xs=true)∨(bb x=true∧ct (gw xs (b+(bj x).length)) (gv xs (b+(bj x).length)) (je xs (b+(bj x).length)) g w) ∨
   ∃u v,w=u++v∧ct (ly x b) (jd x b) (jA x b) g u∧ct (gw xs (b+(bj x).length)) (gv xs (b+(bj x).length)) (je xs (b+(bj x).length)) g v:=by
 obtain ⟨a,w,rfl⟩:=Wm hw;generalize hb':b+(bj x).length=b'
 have eS: ∀p q,gv (x :: xs) b p q↔jd x b p q∨gv xs b' p q∨(jA x b p∧gw xs b' q):=fun p q=>by rw [gv,hb']
 have eL: ∀p,je (x :: xs) b p↔(cY xs=true∧jA x b p)∨je xs b' p:=fun p=>by rw [je,hb']
 have eF: ∀p,gw (x :: xs) b p↔ly x b p∨(bb x=true∧gw xs b' p):=fun p=>by rw [gw,hb']
 have inX: ∀ {p},ly x b p->p<=b':=fun h=>by have:=fI x h;omega
 have inXs: ∀ {p},gw xs b' p->b'<p:=fun h=>by have:=eu (oz h);omega
 have stayR: ∀ {w p q},b'<p->a7 (gv (x :: xs) b) g p w q->a7 (gv xs b') g p w q∧b'<q:=fun hp h=>
  a7.stay (S:=fun p=>b'<p) (fun p q hp h=>by
   rcases (eS p q).1 h with h|h|⟨h,_⟩
   ·have:=dr x h;omega
   ·exact ⟨h,by have:=mi h;omega⟩
   ·have:=eX x h;omega) hp h
 have endR: ∀ {q},b'<q->je (x :: xs) b q->je xs b' q:=fun hq h=>by
  rcases (eL _).1 h with ⟨_,h⟩|h
  ·have:=eX x h;omega
  ·exact h
 constructor
 ·rintro ⟨p,q,hp,hg,hc,hq⟩
  rcases (eF p).1 hp with hp|⟨he,hp⟩
  ·rcases a7.Iw (F:=jd x b) (I:=gw xs b') (T:=jA x b) (S:=fun p=>p<=b') (fun p q hs h=>by
    rcases (eS p q).1 h with h|h|h
    ·exact .inl ⟨h,by have:=dr x h;omega⟩
    ·have:=mi h;omega
    ·exact .inr h) (inX hp) hc with ⟨h1,h2⟩|⟨u,c,v,r,s,rfl,h1,h2,h3,h4,h5⟩
   ·left
    rcases (eL q).1 hq with ⟨h3,h4⟩|h
    ·exact ⟨⟨p,q,hp,hg,h1,h4⟩,h3⟩
    ·have:=ew (uW h);omega
   ·right;right;obtain ⟨h6,h7⟩:=stayR (inXs h3) h5;exact ⟨a :: u,c :: v,rfl,⟨p,r,hp,hg,h1,h2⟩,s,q,h3,h4,h6,endR h7 hq⟩
  ·obtain ⟨h1,h2⟩:=stayR (inXs hp) hc;exact .inr (.inl ⟨he,p,q,hp,hg,h1,endR h2 hq⟩)
 ·rintro (⟨⟨p,q,hp,hg,hc,hq⟩,he⟩|⟨he,p,q,hp,hg,hc,hq⟩|⟨u,v,e,hu,hv⟩)
  ·exact ⟨p,q,(eF p).2 (.inl hp),hg,hc.imp (fun p q h=>(eS p q).2 (.inl h)),(eL q).2 (.inl ⟨he,hq⟩)⟩
  ·exact ⟨p,q,(eF p).2 (.inr ⟨he,hp⟩),hg,hc.imp (fun p q h=>(eS p q).2 (.inr (.inl h))),(eL q).2 (.inr hq)⟩
  ·cases u with
   | nil=>exact hu.elim
   | cons a' u=>
    obtain ⟨rfl,rfl⟩:a=a'∧w=u++v:=by simpa using e
    cases v with
    | nil=>exact hv.elim
    | cons c v=>
     obtain ⟨p,r,h1,h2,h3,h4⟩:=hu;obtain ⟨s,q,k1,k2,k3,k4⟩:=hv;refine ⟨p,q,(eF p).2 (.inl h1),h2,a7.app.2 ⟨r,h3.imp (fun p q h=>(eS p q).2 (.inl h)),s,(eS r s).2 (.inr (.inr ⟨h4,k1⟩)),k2,k3.imp (fun p q h=>(eS p q).2 (.inr (.inl h)))⟩,(eL q).2 (.inr k4)⟩
theorem Hv {x:Ex} {xs:List Ex} {b:Nat} {g:Nat->ByteArray} {w:List ByteArray} :
  ct (fW (x :: xs) b) (iA (x :: xs) b) (fX (x :: xs) b) g w ↔
   ct (ly x b) (jd x b) (jA x b) g w∨ct (fW xs (b+(bj x).length)) (iA xs (b+(bj x).length)) (fX xs (b+(bj x).length)) g w:=by
 cases w with
 | nil=>simp [ct]
 | cons a w=>
  generalize hb':b+(bj x).length=b'
  have eS: ∀p q,iA (x :: xs) b p q↔jd x b p q∨iA xs b' p q:=fun p q=>by rw [iA,hb']
  have eL: ∀p,fX (x :: xs) b p↔jA x b p∨fX xs b' p:=fun p=>by rw [fX,hb']
  have eF: ∀p,fW (x :: xs) b p↔ly x b p∨fW xs b' p:=fun p=>by rw [fW,hb']
  constructor
  ·rintro ⟨p,q,hp,hg,hc,hq⟩
   rcases (eF p).1 hp with hp|hp
   ·obtain ⟨h1,h2⟩:=a7.stay (F:=jd x b) (S:=fun p=>p<=b') (fun p q hs h=>by
     rcases (eS p q).1 h with h|h
     ·exact ⟨h,by have:=dr x h;omega⟩
     ·have:=mh h;omega) (by have:=fI x hp;omega) hc
    rcases (eL q).1 hq with hq|hq
    ·exact .inl ⟨p,q,hp,hg,h1,hq⟩
    ·have:=ew hq;omega
   ·obtain ⟨h1,h2⟩:=a7.stay (F:=iA xs b') (S:=fun p=>b'<p) (fun p q hs h=>by
     rcases (eS p q).1 h with h|h
     ·have:=dr x h;omega
     ·exact ⟨h,by have:=mh h;omega⟩) (by have:=eu hp;omega) hc
    rcases (eL q).1 hq with hq|hq
    ·have:=eX x hq;omega
    ·exact .inr ⟨p,q,hp,hg,h1,hq⟩
  ·rintro (⟨p,q,hp,hg,hc,hq⟩|⟨p,q,hp,hg,hc,hq⟩)
   ·exact ⟨p,q,(eF p).2 (.inl hp),hg,hc.imp (fun p q h=>(eS p q).2 (.inl h)),(eL q).2 (.inl hq)⟩
   ·exact ⟨p,q,(eF p).2 (.inr hp),hg,hc.imp (fun p q h=>(eS p q).2 (.inr h)),(eL q).2 (.inr hq)⟩
theorem EG {I T:Nat->Prop} {F:Nat->Nat->Prop} {g:Nat->ByteArray} {w:List ByteArray} (hw:w≠[]) :
  ct I (fun p q=>F p q∨(T p∧I q)) T g w↔bF (ct I F T g) w:=by
 constructor
 ·generalize hn:w.length=n
  induction n using Nat.strongRecOn generalizing w with
  | ind n ih=>
   intro h
   cases w with
   | nil=>exact h.elim
   | cons a w=>
    obtain ⟨p,q,hp,hg,hc,hq⟩:=h
    rcases a7.split (F:=F) (I:=I) (T:=T) (fun _ _ h=>h) hc with h1|⟨u,c,v,r,s,rfl,h1,h2,h3,h4,h5⟩
    ·exact .one ⟨p,q,hp,hg,h1,hq⟩
    ·have:=ih (c :: v).length (by subst hn;simp;omega) (w:=c :: v) (by simp) rfl ⟨s,q,h3,h4,h5,hq⟩
     rw [show a :: (u++c :: v)=(a :: u)++(c :: v) from rfl];exact .cons _ _ (by simp) ⟨p,r,hp,hg,h1,h2⟩ this
 ·intro h
  have key:w=[]∨ct I (fun p q=>F p q∨(T p∧I q)) T g w:=by
   clear hw
   induction h with
   | nil=>exact .inl rfl
   | cons u v hu h1 _ ih=>
    right
    cases u with
    | nil=>exact absurd rfl hu
    | cons a u=>
     obtain ⟨p,q,hp,hg,hc,hq⟩:=h1;have hc':=hc.imp (G:=fun p q=>F p q∨(T p∧I q)) (fun p q h=> .inl h)
     rcases ih with rfl|ih
     ·rw [Wj];exact ⟨p,q,hp,hg,hc',hq⟩
     ·cases v with
      | nil=>exact ih.elim
      | cons c v=>
       obtain ⟨s,t,k1,k2,k3,k4⟩:=ih;exact ⟨p,t,hp,hg,a7.app.2 ⟨q,hc',s, .inr ⟨hq,k1⟩,k2,k3⟩,k4⟩
  exact key.resolve_left hw
theorem Uv {x:Ex} (hx:Fit x): ∀ {b:Nat} {g:Nat->ByteArray} {w:List ByteArray},l5 (bj x) b g->w≠[]->(Lg x w↔ct (ly x b) (jd x b) (jA x b) g w):=by
 induction hx with
 | lab s=>
  intro b g w hl hw
  have hg:g (b+1)=s:=by have:=hl 0 s (by simp [bj]);simpa using this
  cases w with
  | nil=>exact absurd rfl hw
  | cons a w=>
   simp only [Lg,if_true,ct,ly,jA]
   constructor
   ·intro h;simp only [List.cons.injEq] at h;obtain ⟨rfl,rfl⟩:=h;exact ⟨b+1,b+1,rfl,hg,rfl,rfl⟩
   ·rintro ⟨p,q,rfl,h1,h2,h3⟩
    cases w with
    | nil=>rw [<-h1,hg]
    | cons c w=>obtain ⟨r,h4,_⟩:=h2;simp [jd] at h4
 | many k s l hk hl hf ih=>
  intro b g w hla hw
  have h1:k≠1:=by omega
  rw [dA h1] at hla
  rcases hk with rfl|rfl
  ·have key: ∀(m:List Ex),(∀x∈m,x∈l)-> ∀ {b:Nat} {w:List ByteArray},l5 (aP m) b g->w≠[]->(bT m w↔ct (gw m b) (gv m b) (je m b) g w):=by
    intro m
    induction m with
    | nil=>
     intro _ b w _ hw;obtain ⟨a,w,rfl⟩:=Wm hw;simp [bT,ct,gw]
    | cons x xs ihm=>
     intro hm b w hla hw;rw [aP] at hla;have hx:=hm x V4;have hxs: ∀y∈xs,y∈l:=fun y hy=>hm y (V2 _ hy);have eE:=iL (hf x hx)
     have eA:cY xs=true↔bT xs []:=by
      rw [jP,List.all_eq_true,lA];exact ⟨fun h y hy=>(iL (hf y (hxs y hy))).1 (h y hy),fun h y hy=>(iL (hf y (hxs y hy))).2 (h y hy)⟩
     rw [Hw hw,bT,eE,eA];have I1:=fun {w:List ByteArray} (hw:w≠[])=>ih x hx (b:=b) (g:=g) (w:=w) hla.left hw;have I2:=fun {w:List ByteArray} (hw:w≠[])=>ihm hxs (b:=b+(bj x).length) (w:=w) hla.right hw
     constructor
     ·rintro ⟨u,v,rfl,h2,h3⟩
      by_cases hu:u=[]
      ·subst hu;exact .inr (.inl ⟨h2,(I2 hw).1 h3⟩)
      ·by_cases hv:v=[]
       ·subst hv;rw [Wj] at hw ⊢;exact .inl ⟨(I1 hu).1 h2,h3⟩
       ·exact .inr (.inr ⟨u,v,rfl,(I1 hu).1 h2,(I2 hv).1 h3⟩)
     ·rintro (⟨h2,h3⟩|⟨h2,h3⟩|⟨u,v,rfl,h2,h3⟩)
      ·exact ⟨w,[],by simp,(I1 hw).2 h2,h3⟩
      ·exact ⟨[],w,rfl,h2,(I2 hw).2 h3⟩
      ·refine ⟨u,v,rfl,(I1 (fun e=> ?_)).2 h2,(I2 (fun e=> ?_)).2 h3⟩
       ·subst e;exact h2
       ·subst e;exact h3
   simp only [Lg,ly,jA,Int.reduceEq,if_false,if_true];rw [key l (fun _ h=>h) hla hw]
   have: ∀ {F G:Nat->Nat->Prop} {I T:Nat->Prop} {w},(∀p q,F p q↔G p q)->(ct I F T g w↔ct I G T g w):=fun {F G I T w} h=>by
    have:F=G:=funext fun p=>funext fun q=>propext (h p q)
    rw [this]
   exact this (fun p q=>by simp [jd])
  ·have key: ∀(m:List Ex),(∀x∈m,x∈l)-> ∀ {b:Nat} {w:List ByteArray},l5 (aP m) b g->w≠[]->(l6 m w↔ct (fW m b) (iA m b) (fX m b) g w):=by
    intro m
    induction m with
    | nil=>
     intro _ b w _ hw;obtain ⟨a,w,rfl⟩:=Wm hw;simp [l6,ct,fW]
    | cons x xs ihm=>
     intro hm b w hla hw;rw [aP] at hla;rw [Hv,l6,ih x (hm x V4) hla.left hw,ihm (fun y hy=>hm y (V2 _ hy)) hla.right hw]
   simp only [Lg,ly,jA,Int.reduceEq,if_false,if_true];rw [key l (fun _ h=>h) hla hw]
   have: ∀ {F G:Nat->Nat->Prop} {I T:Nat->Prop} {w},(∀p q,F p q↔G p q)->(ct I F T g w↔ct I G T g w):=fun {F G I T w} h=>by
    have:F=G:=funext fun p=>funext fun q=>propext (h p q)
    rw [this]
   exact this (fun p q=>by simp [jd])
 | one k s x hk hx ih=>
  intro b g w hla hw
  have h1:k≠1:=by omega
  have h2:k≠2:=by omega
  rw [dA h1,aP,aP,Wj] at hla;have I:=fun {w:List ByteArray} (hw:w≠[])=>ih (b:=b) (g:=g) (w:=w) hla hw
  have eF:ly (.mk k s [x]) b=ly x b:=funext fun p=>by simp [ly,h1,h2,fW]
  have eL:jA (.mk k s [x]) b=jA x b:=funext fun p=>by simp [jA,h1,h2,fX]
  have star: ∀ {w:List ByteArray},w≠[]->(bF (pW [x]) w↔ct (ly x b) (fun p q=>jd x b p q∨(jA x b p∧ly x b q)) (jA x b) g w):=fun {w} hw=>by
   rw [EG hw]
   constructor
   ·intro h;clear hw
    induction h with
    | nil=>exact .nil
    | cons u v hu h1 _ ih=>exact .cons u v hu ((I hu).1 h1) ih
   ·intro h;clear hw
    induction h with
    | nil=>exact .nil
    | cons u v hu h1 _ ih=>exact .cons u v hu ((I hu).2 h1) ih
  rw [eF,eL]
  rcases hk with rfl|rfl|rfl
  ·have eFo:jd (.mk 4 s [x]) b=(fun p q=>jd x b p q∨(jA x b p∧ly x b q)):=funext fun p=>funext fun q=>by simp [jd,iA,fX,fW]
   rw [eFo, <- star hw];simp [Lg]
  ·have eFo:jd (.mk 5 s [x]) b=(fun p q=>jd x b p q∨(jA x b p∧ly x b q)):=funext fun p=>funext fun q=>by simp [jd,iA,fX,fW]
   rw [eFo, <- star hw];simp only [Lg,Int.reduceEq,if_false,if_true]
   constructor
   ·rintro ⟨u,v,rfl,h3,h4⟩;exact (bF.one h3).append h4
   ·intro h
    rcases h.inv with e|⟨u,v,rfl,hu,h3,h4⟩
    ·exact absurd e hw
    ·exact ⟨u,v,rfl,h3,h4⟩
  ·have eFo:jd (.mk 6 s [x]) b=jd x b:=funext fun p=>funext fun q=>by simp [jd,iA]
   rw [eFo, <- I hw];simp [Lg,pW,hw]
section
open Go.RowKit Go.Shelf
theorem wi {F:Fence} (hd:F.depth=none) (k:Nat):F.room k:=fun d h=>by rw [hd] at h;cases h
theorem pj {F:Fence} (hd:F.depth=none) {m m':Nat} {P:Program} {l:Nat} {f:FuncId} {tmps:Array Value} {assign body:Code} {w:World} {R:Ending->World->Prop}
  (h:RoundIn F m P l f tmps assign body w R):RoundIn F m' P l f tmps assign body w R:=⟨h.1,fun c cs _=>h.2 c cs (wi hd _)⟩
theorem py {F:Fence} (hd:F.depth=none) {m:Nat} (m':Nat) {P:Program} {l:Nat} {args:Array Value} {W:World} {R:Ending->World->Prop} (h:YieldAt F m P l args W R):YieldAt F m' P l args W R:=by
 obtain ⟨fn,tmps,assign,body,hy,hR⟩:=h;exact ⟨fn,tmps,assign,body,hy,pj hd hR⟩
def ub (lo hi:Nat) (e:TypeId) (k:Nat):Obj->Prop
 | .cells _ T _=>k<lo∨(hi<=k∧T≠e)
 | o=>o.isWalk=true∧(k<lo∨hi<=k)
structure Kept (lo hi:Nat) (e:TypeId) (W W':World):Prop where
 size:W.heap.size<=W'.heap.size
 same: ∀(k:Nat) (o:Obj),W.heap[k]? = some o->ub lo hi e k o->W'.heap[k]? = some o
theorem Kept.refl (lo hi:Nat) (e:TypeId) (W:World):Kept lo hi e W W:=⟨UZ _,fun _ _ h _=>h⟩
theorem Kept.trans {lo hi:Nat} {e:TypeId} {A B C:World} (h:Kept lo hi e A B) (k:Kept lo hi e B C):Kept lo hi e A C:=
 ⟨Nat.le_trans h.size k.size,fun i o hx ho=>k.same i o (h.same i o hx ho) ho⟩
theorem Kept.below {lo hi:Nat} {e:TypeId} {W W':World} (h:Below W.heap.size W W'):Kept lo hi e W W':=
 ⟨h.size,fun k _ hk _=>(h.block k (U2.1 hk).1).trans hk⟩
theorem Kept.alloc {lo hi:Nat} {e:TypeId} (W:World) (o:Obj):Kept lo hi e W (W.alloc o):= .below ((Below.refl _ _).alloc (UZ _) o)
theorem Eh {lo hi:Nat} {e:TypeId} {k:Nat} {o:Obj} (h:ub lo hi e k o):k<lo∨hi<=k:=by
 cases o<;>simp only [ub] at h<;>omega
theorem Kept.setCell {lo hi:Nat} {e:TypeId} (W:World) {b o:Nat} (h1:lo<=b) (h2:b<hi) (v:Value):Kept lo hi e W (W.setCell ⟨b,o,none⟩ v):=
 ⟨by show _<=(W.heap.modify _ _).size;rw [Array.size_modify];exact UZ _,fun k _ hx hk=>(Below.heap_setCell W _ v k (fun e=>by have e2:k=b:=e;have:=Eh hk;omega)).trans hx⟩
theorem Kept.putObj {lo hi:Nat} {e:TypeId} (W:World) (l:Nat) (o o':Obj) (h:W.heap[l]? = some o) (hc:o.isCells=false) (hw:o.isWalk=false):Kept lo hi e W (W.putObj l o'):=
 ⟨by simp,fun k o'' hx ho=>(World.putObj_heap_other (fun e=>by
  subst e;rw [h] at hx;cases hx
  cases o<;>simp_all [ub,Obj.isCells])).trans hx⟩
theorem Kept.grown {lo hi:Nat} {e:TypeId} {W W':World} {row:Option Nat} (hg:W.grownBy W' row) (h: ∀r o,row=some r->W.heap[r]? = some o-> ¬ub lo hi e r o):Kept lo hi e W W':=
 ⟨hg.size,fun k o hx hk=>(hg.block k (U2.1 hx).1 (fun e=>h k o e.symm hx hk)).trans hx⟩
theorem Kept.cells {lo hi:Nat} {e:TypeId} {w0 W W':World} (h:Kept lo hi e W W') (hc:Cells w0 W) (hlo:w0.heap.size<=lo):Cells w0 W':=fun b o v hv=>by
 have hb:=jX hv;have h1:=hc b o v hv;unfold World.cell? at h1 ⊢
 cases hw:W.heap[b]? with
 | none=>simp [hw] at h1
 | some ob=>
  cases ob with
  | cells C T fz=>
   have:=h.same b _ hw (.inl (by omega))
   simp only [this];simpa [hw] using h1
  | _=>simp [hw] at h1
theorem Kept.box {lo hi:Nat} {e:TypeId} {W W':World} (h:Kept lo hi e W W') {k:Nat} {C:Array Value} {T:TypeId} {fz:Nat×Nat} (hk:hi<=k) (hT:T≠e) (hx:W.heap[k]? = some (.cells C T fz)):W'.heap[k]? = some (.cells C T fz):=
 h.same k _ hx (.inr ⟨hk,hT⟩)
def Un {α:Type} (J Jx:List α->World->Prop) (Kp:World->World->Prop) (pre:List α) (x:α) (W:World) (e:Ending) (W':World):Prop:=
 (e = .returned (.bool true)∧J (pre++[x]) W'∧Kp W W')∨(e = .returned (.bool false)∧Jx (pre++[x]) W')
theorem au {w:World} {k:Nat} {C:Array Value} {T:TypeId} {fz:Nat×Nat} (h:w.heap[k]? = some (.cells C T fz)) (o:Nat):w.cell? ⟨k,o,none⟩=C[o]? :=by simp [World.cell?,h]
theorem cj {w:World} {k:Nat} {C:Array Value} {T:TypeId} (h:w.heap[k]? = some (.cells C T (0,0))) (o:Nat):w.frozen? ⟨k,o,none⟩=false:=by simp [World.frozen?,h]
theorem iI {w:World} {k:Nat} {ob:Obj} (h:w.heap[k]? = some ob) (o:Obj):(w.alloc o).heap[k]? = some ob:=(Below.heap_alloc w o k (U2.1 h).1).trans h
theorem dn {w:World} {k:Nat} {ob:Obj} (h:w.heap[k]? = some ob) {b o:Nat} (v:Value) (hne:k≠b):(w.setCell ⟨b,o,none⟩ v).heap[k]? = some ob:=(Below.heap_setCell w _ v k hne).trans h
theorem gX {w:World} {k:Nat} {v:Value} {T:TypeId} {fz:Nat×Nat} (h:w.heap[k]? = some (.cells #[v] T fz)) (u:Value):(w.setCell ⟨k,0,none⟩ u).heap[k]? = some (.cells #[u] T fz):=by
 simp [World.setCell,Array.getElem?_modify,h]
theorem dj {w:World} {k D:Nat} {ob:Obj} (h:w.heap[k]? = some ob) (o:Obj) (hne:k≠D):(w.putObj D o).heap[k]? = some ob:=(World.putObj_heap_other hne).trans h
theorem kr {B:Nat} {W W':World} (h:Below W.heap.size W W'):KeepsFrom B W W':=⟨h.size,fun k _ _ hk _=>(h.block k (U2.1 hk).1).trans hk⟩
theorem iO {β:Type} (B0 B:Nat) (C:β->Array Value) (T:TypeId):OwnFrom B0 (fun (s:β) W=>W.heap[B]? = some (.cells (C s) T (0,0))):=fun s X Y row hs hg hr=>by
 refine (hg.block B (U2.1 hs).1 (fun e=> ?_)).trans hs;obtain ⟨_,o,ho,hc⟩:=hr B e.symm;rw [hs] at ho;cases ho;cases hc
def handed {α:Type} (encs:α->Array Value) (ps:Array Tmp) (a:Act) (x:α):Act:={ tmps:=(ps.toList.zip (encs x).toList).foldl (fun t pv=>t.setIfInBounds pv.1 pv.2) a.tmps,defers:=[] }
theorem Ee {α:Type} (encs:α->Array Value) (ps:Array Tmp) (a:Act) (x:α):handed encs ps a x={ tmps:=(ps.zip (encs x)).foldl (fun t (p,v)=>t.setIfInBounds p v) a.tmps,defers:=[] }:=by
 rw [handed, <- Array.toList_zip,Array.foldl_toList]
def Act.mQ (a:Act) (d:Nat) (v:Value):Act:={ a with tmps:=a.tmps.setIfInBounds d v }
section
variable {P:Program} {α:Type} {g:Operand} {ps:Array Tmp} {assign body:Code} {Q:Exit->Act->World->Prop} {a:Act} {w:World}
theorem Ia {lo hi gf:Nat} {et:TypeId} {lb:Array Value} (hg:a.eval g = .func (.func gf) #[] lb) (eg: ∀args w,(callFunc gf args).run P w = .ok (.enter gf args) w)
  {encs:α->Array Value} {S Sp:List α->Prop} {N:Nat} {w0:World} (hseq:SeqStopsK Fence.wide 8 P gf lb encs (Kept lo hi et) S Sp N w0)
  (hb0:Below w0.heap.size w0 w) (hps: ∀x,(encs x).size=ps.size)
  (I:List α->World->Prop) (Ix:Code->List α->World->Prop) (hI:OwnFrom w.heap.size I) (hIx: ∀c,OwnFrom w.heap.size (Ix c)) (h0:I [] w) (d:Nat) (C:α->Array Value) (T:TypeId)
  (hsz: ∀pre W,I pre W->w.heap.size<=W.heap.size)
  (hassign: ∀(l:Nat) (x:α) (W:World) (K:Act->World->Prop),K (Act.mQ (handed encs ps a x) d (.pointer (some ⟨W.heap.size,0,none⟩))) (W.alloc (.cells (C x) T)) ->
   assign.wpIn (Fence.wide.inRound l) 7 P (Exit.then K (fun _ _ _=>False)) (handed encs ps a x) W)
  (hbody: ∀(l:Nat) (pre:List α) (x:α) (B:Nat) (W:World),w.heap.size<=l->(∃r,W.heap[l]? = some (.loop r))->I pre W->w.heap.size<=B->W.heap[B]? = some (.cells (C x) T (0,0))->pre.length<N ->
   body.wpIn (Fence.wide.inRound l) 7 P (ownPostG w.heap.size (Kept lo hi et) I Ix (pre++[x]) W) (Act.mQ (handed encs ps a x) d (.pointer (some ⟨B,0,none⟩))) W)
  (hdone: ∀(D:Nat) (xs:List α) (W:World),w.heap.size<=D->S xs->I xs W->W.heap[D]? = some (.deferred (some []))->Q .normal { a with defers:={ target:= .collected D,args:= #[] } :: a.defers } W)
  (hstop: ∀(D:Nat) (c:Code) (pre:List α) (W:World),w.heap.size<=D->Sp pre->Ix c pre W->W.heap[D]? = some (.deferred (some []))->c.wpIn Fence.wide 9 P Q { a with defers:={ target:= .collected D,args:= #[] } :: a.defers } W) :
  (Code.rangeFunc g ps assign body).wpIn Fence.wide 9 P Q a w:=
 wpIn_rangeFunc_ownH (F:=Fence.wide) (n:=9) rfl (by omega) hg trivial eg hseq Kept.trans (fun W l o o' _ h hc hw=>Kept.putObj W l o o' h hc hw) hb0 hps I Ix hI hIx h0
  (fun x a' W=> ∃B,w.heap.size<=B∧a'=Act.mQ (handed encs ps a x) d (.pointer (some ⟨B,0,none⟩))∧W.heap[B]? = some (.cells (C x) T (0,0)))
  (fun x a' s X Y row hs hg' hr=>by
   obtain ⟨B,h1,h2,h3⟩:=hs
   exact ⟨B,h1,h2,iO (β:=Unit) w.heap.size B (fun _=>C x) T () X Y row h3 hg' hr⟩)
  (fun l pre x W K hi' hK=>Ee encs ps a x ▸ hassign l x W K (hK _ _ (((KeepsOthers.alloc W _).from _)) (Kept.alloc W _) (hI.alloc _ hi') ⟨W.heap.size,hsz _ _ hi',rfl,dG W _⟩))
  (fun l pre x a' W hl hr hi' ha hn=>by
   obtain ⟨B,h1,rfl,h3⟩:=ha
   exact hbody l pre x B W hl hr hi' h1 h3 hn) hdone hstop
end
theorem s9 {W w1:World} {lo hi B size k:Nat} {e:TypeId} {v:Value} {xs:List Value} {tmp:Obj} (hrow:W.ownsRow lo e size v k xs) (hgrow:(W.alloc tmp).grownBy w1 v.ownBlock) (hlo:lo<=B) (hB:B<hi) (v':Value) :
  Kept lo hi e W (w1.setCell ⟨B,0,none⟩ v'):=by
 refine ((Kept.alloc W tmp).trans (Kept.grown hgrow fun r o hr ho hk=> ?_)).trans (Kept.setCell _ hlo hB _)
 rcases (hrow.alloc tmp).2 with ⟨rfl,_⟩|⟨g,cap,cur,rfl,hg,hgb,_⟩
 ·simp [Value.ownBlock] at hr
 ·obtain rfl:g=r:=by simpa [Value.ownBlock] using hr
  rw [hgb] at ho;cases ho;simp only [ub] at hk
  rcases hk with hk|hk
  ·omega
  ·exact hk.2 rfl
theorem jI {w W:World} (h:Below w.heap.size w W) {D:Nat} {o:Obj} (hD:w.heap.size<=D) (o':Obj) (_:W.heap[D]? = some o):Below w.heap.size w (W.putObj D o'):=
 h.grown (grownBy_putObj' W D o') (h.size) (fun k e=>by cases e;exact hD)
end
theorem mK (c:Int) (w:World):Calls Tryz.prog 126 #[.int .i32 c] w fun e w'=>e = .returned (.bool (lZ c))∧w=w':=by
 unfold lZ
 by_cases h1:97<=c
 ·have d1:decide (97<=c)=true:=by simpa using h1
  rw [d1,Wn]
  go_enter Tryz.func126,Tryz.ntmps126
  go_wp2_with fail
  go_ret
  exact ⟨rfl,rfl⟩
 ·have d1:decide (97<=c)=false:=by simpa using h1
  rw [d1,Bool.false_and]
  go_enter Tryz.func126,Tryz.ntmps126
  go_wp2_with fail
  go_ret
  exact ⟨rfl,rfl⟩
theorem yO (c:Int):(lZ c=true∧iU c=true)∨(lZ c=false∧(c !=95)=false∧iU c=true)∨(lZ c=false∧(c !=95)=true∧c<48∧iU c=false) ∨
  (lZ c=false∧(c !=95)=true∧48<=c∧57<c∧iU c=false)∨(lZ c=false∧(c !=95)=true∧48<=c∧c<=57∧iU c=true):=by
 unfold iU
 cases h:lZ c
 ·by_cases h1:c=95
  ·subst h1;exact .inr (.inl ⟨rfl,rfl,rfl⟩)
  ·have hn:(c==95)=false:=by simpa using h1
   have hn':(c !=95)=true:=by simpa using h1
   rw [hn,hn']
   by_cases h2:48<=c
   ·by_cases h3:c<=57
    ·exact .inr (.inr (.inr (.inr ⟨rfl,rfl,h2,h3,by simp [h2,h3]⟩)))
    ·exact .inr (.inr (.inr (.inl ⟨rfl,rfl,h2,by omega,by simp [h3]⟩)))
   ·exact .inr (.inr (.inl ⟨rfl,rfl,by omega,by simp [h2]⟩))
 ·exact .inl ⟨rfl,by simp⟩
theorem pM (s:ByteArray) (w:World) (hs:s.size<=maxLen):Calls Tryz.prog 86 #[.string s] w (Dj w (.bool (gJ s))):=by
 unfold maxLen at hs;have hit: ∀pos,Below w.heap.size w (w.iter s pos):=fun pos=>(Below.refl _ _).alloc (UZ _) _;have HI:=Lib.hid hit;clear hit
 go_enter Tryz.func86,Tryz.ntmps86
 go_wp2_with fail
 go_loopw [2] (fun r wr=>r = .bool false∧ ∃pos:Nat,wr=w.iter s pos∧pos<=s.size∧ ∀j (h:j<pos) (h':j<s.size),iU s[j].toNat=true) (fun _ wr=>s.size - wr.iterPos w.heap.size)
 case atStart=>exact ⟨rfl,0,rfl,Nat.zero_le _,fun j h=>by omega⟩
 case round=>
  obtain ⟨rfl,pos,rfl,hpos,hP⟩:=hrel;have HP:=Lib.hid hP;clear hP
  by_cases hp:pos<s.size
  ·by_cases ha:(s[pos]'hp).toNat<128
   ·have hnx: ∀ty,(Instr.next (.pointer (some ⟨w.heap.size,0,none⟩)) true ty).run Tryz.prog (w.iter s pos)=_:=fun ty=>run_next_ascii w s pos ty hp ha;have HV:=Lib.hid (@zb s pos hp)
    have HS:Hid (∀(hv:iU (s[pos]'hp).toNat=true) j (h:j<pos+1) (h':j<s.size),iU s[j].toNat=true):=fun hv j h h'=>by
     by_cases e:j=pos
     ·subst e;exact hv
     ·exact HP.out j (by omega) h'
    have hL:=fun W=>mK (((s[pos]'hp).toNat:Nat):Int) W;generalize hn:(s[pos]'hp).toNat=n at hnx ha HV HS hL;have HN:=Lib.hid hn;clear hn;have HL:=Lib.hid hL;clear hL
    rcases yO (n:Int) with ⟨g1,g2⟩|⟨g1,g2,g3⟩|⟨g1,g2,g3,g4⟩|⟨g1,g2,g3,g4,g5⟩|⟨g1,g2,g3,g4,g5⟩
    ·rw [g1] at HL;clear g1;have HG:=Lib.hid g2;clear g2
     go_wp2_with (go_at_call 126;refine (HL.out _).mono ?_;rintro e w' ⟨rfl,rfl⟩)
     go_roundw
     case rel=>exact ⟨rfl,pos+1,rfl,by omega,HS.out HG.out⟩
     case measure=>simp;omega
    ·rw [g1] at HL;clear g1;have HG:=Lib.hid g3;clear g3
     go_wp2_with (go_at_call 126;refine (HL.out _).mono ?_;rintro e w' ⟨rfl,rfl⟩)
     go_roundw
     case rel=>exact ⟨rfl,pos+1,rfl,by omega,HS.out HG.out⟩
     case measure=>simp;omega
    ·rw [g1] at HL;clear g1;have HG:=Lib.hid g4;clear g4
     go_wp2_with (go_at_call 126;refine (HL.out _).mono ?_;rintro e w' ⟨rfl,rfl⟩)
     go_ret
     exact b7 rfl (HV.out HG.out).symm (HI.out _)
    ·rw [g1] at HL;clear g1;have HG:=Lib.hid g5;clear g5
     go_wp2_with (go_at_call 126;refine (HL.out _).mono ?_;rintro e w' ⟨rfl,rfl⟩)
     go_ret
     exact b7 rfl (HV.out HG.out).symm (HI.out _)
    ·rw [g1] at HL;clear g1;have HG:=Lib.hid g5;clear g5
     go_wp2_with (go_at_call 126;refine (HL.out _).mono ?_;rintro e w' ⟨rfl,rfl⟩)
     go_roundw
     case rel=>exact ⟨rfl,pos+1,rfl,by omega,HS.out HG.out⟩
     case measure=>simp;omega
   ·have hnx: ∀ty,(Instr.next (.pointer (some ⟨w.heap.size,0,none⟩)) true ty).run Tryz.prog (w.iter s pos)=_:=fun ty=>run_next_any w s pos ty hp;have hd:=(decode_high s pos hp (by omega)).1
    have HV:=Lib.hid (zb hp (by
     have hl:lZ (((s[pos]'hp).toNat:Nat):Int)=false:=by unfold lZ;simp;omega
     unfold iU;rw [hl];simp;omega))
    have hL:=fun W=>mK (((Utf8.decode s pos).1:Nat):Int) W;generalize (Utf8.decode s pos).1=n at hnx hd hL;generalize (Utf8.decode s pos).2=m at hnx
    have hl:lZ (n:Int)=false:=by unfold lZ;simp;omega
    rw [hl] at hL
    have hn:((n:Int) !=95)=true:=by simp;omega
    have HL:=Lib.hid hL;clear hL hl ha
    go_wp2_with (go_at_call 126;refine (HL.out _).mono ?_;rintro e w' ⟨rfl,rfl⟩)
    go_ret
    exact b7 rfl HV.out.symm (HI.out _)
  ·have hnx: ∀ty,(Instr.next (.pointer (some ⟨w.heap.size,0,none⟩)) true ty).run Tryz.prog (w.iter s pos)=_:=fun ty=>run_next_end w s pos ty hp;have HV:=Lib.hid (E8 (s:=s) (fun j h=>HP.out j (by omega) h));have he:=iz s
   by_cases h0:s.size=0
   ·rw [decide_eq_true h0] at he
    have hx:Hid ((decide (1<=s.size)&&decide (s.size<=20))=false):=by show _=_;simp [h0]
    clear h0
    go_wp2_with fail
    go_ret
    exact b7 rfl (by rw [HV.out,hx.out]) (HI.out _)
   ·rw [decide_eq_false h0] at he
    have hx:Hid ((decide (1<=s.size)&&decide (s.size<=20))=decide (s.size<=20)):=by show _=_;rw [decide_eq_true (by omega),Wn]
    go_wp2_with fail
    go_ret
    exact b7 rfl (by rw [HV.out,hx.out,decide_eq_decide];omega) (HI.out _)
def vD (xs:List ByteArray) (s:ByteArray):Int:=match xs.findIdx? (fun x=>dD s x) with|some k=>k|none=> -1
def hasB (xs:List ByteArray) (s:ByteArray):Bool:=xs.any (fun x=>dD s x)
theorem Kf {xs:List ByteArray} {s:ByteArray} {k:Nat} (hk:k<xs.length) (hx:dD s xs[k]=true) (h: ∀j (_:j<k) (h':j<xs.length),dD s xs[j]=false):vD xs s=k:=by
 have:xs.findIdx? (fun x=>dD s x)=some k:=by
  rw [Wo];exact ⟨hk,hx,fun j hj=>by rw [h j hj (by omega)];decide⟩
 rw [vD,this]
theorem Ef {xs:List ByteArray} {s:ByteArray} (h: ∀j (h:j<xs.length),dD s xs[j]=false):vD xs s = -1:=by
 have:xs.findIdx? (fun x=>dD s x)=none:=by
  rw [Wp];intro x hx;obtain ⟨j,hj,rfl⟩:=List.getElem_of_mem hx;exact h j hj
 rw [vD,this]
theorem GL (xs:List ByteArray) (s:ByteArray):decide (0<=vD xs s)=hasB xs s:=by
 unfold vD hasB
 cases h:xs.findIdx? (fun x=>dD s x) with
 | none=>
  rw [Wp] at h;simp only [show decide ((0:Int) <= -1)=false by decide];rw [eq_comm,List.any_eq_false]
  exact fun x hx=>by rw [h x hx];decide
 | some k=>
  rw [Wo] at h;obtain ⟨h1,h2,_⟩:=h;rw [decide_eq_true (by simp),eq_comm,List.any_eq_true];exact ⟨xs[k],List.getElem_mem _,h2⟩
theorem Eg (xs:List ByteArray) (v:Value) (s:ByteArray) (w:World) (h1:mj w xs v) :
  Calls Tryz.prog 160 #[v, .string s] w (Dk w (.int .i64 (vD xs s))):=by
 obtain ⟨p,c,rfl,hc1,hc2⟩:=h1.shape;unfold maxLen at hc2;have H1:=Lib.hid h1;clear h1
 go_enter Tryz.func160,Tryz.ntmps160
 go_wp2_with fail
 go_loop [4,8] (fun r i=>r = .int .i64 0∧ ∃k:Nat,k<=xs.length∧i = .int .i64 k∧ ∀j (h:j<k) (h':j<xs.length),dD s xs[j]=false) (fun _ i=>xs.length - (intOf i).toNat)
 case atStart=>exact ⟨rfl,0,Nat.zero_le _,rfl,fun j h=>by omega⟩
 case round=>
  obtain ⟨rfl,k,hk,rfl,hP⟩:=hrel;have HP:=Lib.hid hP;clear hP
  by_cases hlt:k<xs.length
  ·obtain ⟨b1,o1,rfl,a0⟩:=ES H1.out hlt
   cases hs:dD s xs[k]
   ·have HS:=Lib.hid hs;unfold dD at hs
    go_wp2_with fail
    go_round
    case rel=>exact ⟨rfl,k+1,by omega,by go_num,fun j h h'=>by
     by_cases e:j=k
     ·subst e;exact HS.out
     ·exact HP.out j (by omega) h'⟩
    case measure=>simp [intOf];omega
   ·have HS:=Lib.hid hs;unfold dD at hs
    go_wp2_with fail
    go_ret
    exact H9 rfl (Kf hlt HS.out HP.out).symm
  ·go_wp2_with fail
   go_ret
   exact H9 rfl (Ef (fun j h=>HP.out j (by omega) h)).symm
theorem vr (xs:List ByteArray) (v:Value) (s:ByteArray) (w:World) (h1:mj w xs v) :
  Calls Tryz.prog 127 #[v, .string s] w (Dk w (.bool (hasB xs s))):=by
 have HC:=Lib.hid (Eg xs v s w h1);clear h1;rw [<-GL]
 go_enter Tryz.func127,Tryz.ntmps127
 go_wp2_with fail
 refine HC.out.mono ?_;rintro e w' ⟨rfl,rfl⟩
 go_wp2_with fail
 go_ret
 exact ⟨rfl,rfl⟩
theorem xQ (s:ByteArray) (w:World) (hs:s.size<=maxLen):Calls Tryz.prog 87 #[.string s] w (Dj w (.bool (cZ s))):=by
 have HV:=Lib.hid (fun W=>pM s W hs);have HB:=Lib.hid (fun o=>((Below.refl w.heap.size w).alloc (UZ _) o))
 have HW:Hid (∀W1,Below (w.alloc (.cells (words.map Value.string).toArray 9)).heap.size (w.alloc (.cells (words.map Value.string).toArray 9)) W1->Calls Tryz.prog 127 #[.slice (some ⟨w.heap.size,0,none⟩) 7 7, .string s] W1 (Dk W1 (.bool (hasB words s)))):=fun W1 hb=>
  vr words _ s W1 (Bb (rd:=Ly) (xs:=words) (sz:=1) ((hb.block _ (by simp)).trans (dG w _)) (fun x=>[Value.string x]) (fun x _=>rfl) (fun x _=>rfl) (by simp [List.flatMap,words]) rfl (by decide) (by unfold maxLen;decide))
 cases g1:gJ s
 ·rw [g1] at HV
  have hfin:cZ s=false:=by simp [cZ,g1]
  rw [hfin];clear hfin;have G1:=Lib.hid g1;clear g1 HW
  go_enter Tryz.func87,Tryz.ntmps87
  go_wp2_with fail
  refine (HV.out _).mono ?_;rintro e w1 ⟨rfl,hb1⟩
  go_wp2_with fail
  go_ret
  exact b7 rfl rfl (cQ (HB.out _) hb1)
 ·rw [g1] at HV;obtain ⟨h0,_⟩:=Bv g1;have hl:=fun W=>mK (rn s) W
  have hfin:cZ s=(lZ (rn s) && !hasB words s):=by simp [cZ,g1,hasB]
  rw [hfin];clear hfin
  have hfi:rn s=((s[0]'h0).toNat:Int):=by simp [rn,h0]
  rw [hfi] at hl;rw [hfi];have HL:=Lib.hid hl;clear hl hfi;have hby:(s[0]'h0).toNat<256:=UInt8.toNat_lt _
  cases g2:lZ ((s[0]'h0).toNat:Int)
  ·rw [g2] at HL;rw [Bool.false_and];clear g2
   go_enter Tryz.func87,Tryz.ntmps87
   go_wp2_with fail
   refine (HV.out _).mono ?_;rintro e w1 ⟨rfl,hb1⟩
   go_wp2_with fail
   refine (HL.out _).mono ?_;rintro e w' ⟨rfl,rfl⟩
   go_wp2_with fail
   go_ret
   exact b7 rfl rfl (cQ (HB.out _) hb1)
  ·rw [g2] at HL;rw [Wn];clear g2
   go_enter Tryz.func87,Tryz.ntmps87
   go_wp2_with fail
   refine (HV.out _).mono ?_;rintro e w1 ⟨rfl,hb1⟩
   go_wp2_with fail
   refine (HL.out _).mono ?_;rintro e w' ⟨rfl,rfl⟩
   go_wp2_with fail
   refine (HW.out _ hb1).mono ?_;rintro e w' ⟨rfl,rfl⟩
   go_wp2_with fail
   go_ret
   exact b7 rfl rfl (cQ (HB.out _) hb1)
theorem EK (s:ByteArray) (w:World) (hs:s.size<=maxLen):Calls Tryz.prog 161 #[.string s] w (Dk w (.bool (mO s))):=by
 unfold maxLen at hs
 go_enter Tryz.func161,Tryz.ntmps161
 go_wp2_with fail
 go_loop [2,7] (fun r i=>r = .bool false∧ ∃k:Nat,i = .int .i64 k∧k<=s.size∧ ∀j (h:j<k) (h':j<s.size),fQ s[j].toNat=true) (fun _ i=>s.size - (intOf i).toNat)
 case atStart=>exact ⟨rfl,0,rfl,Nat.zero_le _,fun j h=>by omega⟩
 case round=>
  obtain ⟨rfl,k,rfl,hk,hP⟩:=hrel;have HP:=Lib.hid hP;clear hP
  by_cases hlt:k<s.size
  ·have HV:=Lib.hid (@EJ s k hlt)
   have HS:Hid (∀(hv:fQ (s[k]'hlt).toNat=true) j (h:j<k+1) (h':j<s.size),fQ s[j].toNat=true):=fun hv j h h'=>by
    by_cases e:j=k
    ·subst e;exact hv
    ·exact HP.out j (by omega) h'
   have hc:=vU (s[k]'hlt).toNat;have hby:(s[k]'hlt).toNat<256:=UInt8.toNat_lt _
   rcases hc with ⟨g1,g2⟩|⟨g1,g2,g3⟩|⟨g1,g2,g3,g4⟩|⟨g1,g2,g3,g4,g5⟩|⟨g1,g2,g3,g4,g5⟩
   ·have HG:=Lib.hid g2;clear g2
    go_wp2_with fail
    go_ret
    exact sq rfl (HV.out HG.out).symm
   ·have HG:=Lib.hid g3;clear g3
    go_wp2_with fail
    go_ret
    exact sq rfl (HV.out HG.out).symm
   ·have HG:=Lib.hid g4;clear g4
    go_wp2_with fail
    go_ret
    exact sq rfl (HV.out HG.out).symm
   ·have HG:=Lib.hid g5;clear g5
    go_wp2_with fail
    go_ret
    exact sq rfl (HV.out HG.out).symm
   ·have HG:=Lib.hid g5;clear g5
    go_wp2_with fail
    go_round
    case rel=>exact ⟨rfl,k+1,by go_num,by omega,HS.out HG.out⟩
    case measure=>simp [intOf];omega
  ·go_wp2_with fail
   go_ret
   exact sq rfl (A3 (fun j h=>HP.out j (by omega) h)).symm
theorem wC (v:zE) (w:World) (hs:v.text.size<=maxLen):Calls Tryz.prog 128 #[.agg #[.int .i64 v.kind, .int .i64 v.num, .string v.text]] w (Dj w (.bool (bM v))):=by
 obtain ⟨k,n,s⟩:=v;simp only at hs;have HP:=Lib.hid (fun W=>EK s W hs);have HB:=Lib.hid (fun o=>((Below.refl w.heap.size w).alloc (UZ _) o));have he:=iz s
 cases h1:k==1
 ·cases h2:k==2
  ·have hfin:bM ⟨k,n,s⟩=false:=by simp [bM,h1,h2]
   rw [hfin];clear hfin he HP
   go_enter Tryz.func128,Tryz.ntmps128
   go_wp2_with fail
   go_ret
   exact b7 rfl rfl (HB.out _)
  ·cases h3:n==0
   ·have hfin:bM ⟨k,n,s⟩=false:=by simp [bM,h1,h2,h3]
    rw [hfin];clear hfin he HP
    go_enter Tryz.func128,Tryz.ntmps128
    go_wp2_with fail
    go_ret
    exact b7 rfl rfl (HB.out _)
   ·by_cases h4:s.size<=40
    ·have hfin:bM ⟨k,n,s⟩=mO s:=by simp [bM,h1,h2,h3,h4]
     rw [hfin];clear hfin he
     go_enter Tryz.func128,Tryz.ntmps128
     go_wp2_with fail
     refine (HP.out _).mono ?_;rintro e w' ⟨rfl,rfl⟩
     go_wp2_with fail
     go_ret
     exact b7 rfl rfl (HB.out _)
    ·have hfin:bM ⟨k,n,s⟩=false:=by simp [bM,h1,h2,h3,h4]
     rw [hfin];clear hfin he HP
     go_enter Tryz.func128,Tryz.ntmps128
     go_wp2_with fail
     go_ret
     exact b7 rfl rfl (HB.out _)
 ·cases h3:k9 s
  ·have hfin:bM ⟨k,n,s⟩=false:=by simp [bM,h1,h3]
   rw [k9] at h3;rw [h3] at he;rw [hfin];clear hfin HP h3
   go_enter Tryz.func128,Tryz.ntmps128
   go_wp2_with fail
   go_ret
   exact b7 rfl rfl (HB.out _)
  ·by_cases h4: -lL<=n
   ·have hfin:bM ⟨k,n,s⟩=decide (n<=lL):=by simp [bM,h1,h3,h4]
    rw [k9] at h3;rw [h3] at he;rw [hfin];clear hfin HP h3;unfold lL at h4 ⊢
    go_enter Tryz.func128,Tryz.ntmps128
    go_wp2_with fail
    go_ret
    exact b7 rfl rfl (HB.out _)
   ·have hfin:bM ⟨k,n,s⟩=false:=by simp [bM,h1,h3,h4]
    rw [k9] at h3;rw [h3] at he;rw [hfin];clear hfin HP h3;unfold lL at h4
    go_enter Tryz.func128,Tryz.ntmps128
    go_wp2_with fail
    go_ret
    exact b7 rfl rfl (HB.out _)
theorem Hs (k:Int) (s:ByteArray) (p:Option Addr) (n c:Nat) (w:World) (hs:s.size<=maxLen) (hn:n<=maxLen) :
  Calls Tryz.prog 76 #[.agg #[.int .i64 k, .string s, .slice p n c]] w (Dj w (.bool (bA k s n))):=by
 have HF:=Lib.hid (fun W=>xQ s W hs);have HB:=Lib.hid (fun o=>((Below.refl w.heap.size w).alloc (UZ _) o));unfold maxLen at hs hn;have he:=iz s
 cases h1:k==1
 ·cases h2:k==2
  ·cases h3:k==3
   ·cases h4:k==4
    ·cases h5:k==5
     ·cases h6:k==6
      ·have hfin:bA k s n=false:=by simp [bA,h1,h2,h3,h4,h5,h6]
       rw [hfin];clear hfin he HF
       go_enter Tryz.func76,Tryz.ntmps76
       go_wp2_with fail
       go_ret
       exact b7 rfl rfl (HB.out _)
      ·skip
       by_cases h7:n=1
       ·have h8:((n:Int)==1)=true:=by simp [h7]
        cases h9:k9 s
        ·have hfin:bA k s n=false:=by simp [bA,h1,h2,h3,h4,h5,h6,h7,h9]
         rw [k9] at h9;rw [h9] at he;rw [hfin];clear hfin HF h9
         go_enter Tryz.func76,Tryz.ntmps76
         go_wp2_with fail
         go_ret
         exact b7 rfl rfl (HB.out _)
        ·have hfin:bA k s n=true:=by simp [bA,h1,h2,h3,h4,h5,h6,h7,h9]
         rw [k9] at h9;rw [h9] at he;rw [hfin];clear hfin HF h9
         go_enter Tryz.func76,Tryz.ntmps76
         go_wp2_with fail
         go_ret
         exact b7 rfl rfl (HB.out _)
       ·have h8:((n:Int)==1)=false:=by simp;omega
        have hfin:bA k s n=false:=by simp [bA,h1,h2,h3,h4,h5,h6,h7]
        rw [hfin];clear hfin he HF
        go_enter Tryz.func76,Tryz.ntmps76
        go_wp2_with fail
        go_ret
        exact b7 rfl rfl (HB.out _)
     ·skip
      by_cases h7:n=1
      ·have h8:((n:Int)==1)=true:=by simp [h7]
       cases h9:k9 s
       ·have hfin:bA k s n=false:=by simp [bA,h1,h2,h3,h4,h5,h7,h9]
        rw [k9] at h9;rw [h9] at he;rw [hfin];clear hfin HF h9
        go_enter Tryz.func76,Tryz.ntmps76
        go_wp2_with fail
        go_ret
        exact b7 rfl rfl (HB.out _)
       ·have hfin:bA k s n=true:=by simp [bA,h1,h2,h3,h4,h5,h7,h9]
        rw [k9] at h9;rw [h9] at he;rw [hfin];clear hfin HF h9
        go_enter Tryz.func76,Tryz.ntmps76
        go_wp2_with fail
        go_ret
        exact b7 rfl rfl (HB.out _)
      ·have h8:((n:Int)==1)=false:=by simp;omega
       have hfin:bA k s n=false:=by simp [bA,h1,h2,h3,h4,h5,h7]
       rw [hfin];clear hfin he HF
       go_enter Tryz.func76,Tryz.ntmps76
       go_wp2_with fail
       go_ret
       exact b7 rfl rfl (HB.out _)
    ·skip
     by_cases h7:n=1
     ·have h8:((n:Int)==1)=true:=by simp [h7]
      cases h9:k9 s
      ·have hfin:bA k s n=false:=by simp [bA,h1,h2,h3,h4,h7,h9]
       rw [k9] at h9;rw [h9] at he;rw [hfin];clear hfin HF h9
       go_enter Tryz.func76,Tryz.ntmps76
       go_wp2_with fail
       go_ret
       exact b7 rfl rfl (HB.out _)
      ·have hfin:bA k s n=true:=by simp [bA,h1,h2,h3,h4,h7,h9]
       rw [k9] at h9;rw [h9] at he;rw [hfin];clear hfin HF h9
       go_enter Tryz.func76,Tryz.ntmps76
       go_wp2_with fail
       go_ret
       exact b7 rfl rfl (HB.out _)
     ·have h8:((n:Int)==1)=false:=by simp;omega
      have hfin:bA k s n=false:=by simp [bA,h1,h2,h3,h4,h7]
      rw [hfin];clear hfin he HF
      go_enter Tryz.func76,Tryz.ntmps76
      go_wp2_with fail
      go_ret
      exact b7 rfl rfl (HB.out _)
   ·skip
    by_cases h7:1<n
    ·skip
     cases h9:k9 s
     ·have hfin:bA k s n=false:=by simp [bA,h1,h2,h3,h7,h9]
      rw [k9] at h9;rw [h9] at he;rw [hfin];clear hfin HF h9
      go_enter Tryz.func76,Tryz.ntmps76
      go_wp2_with fail
      go_ret
      exact b7 rfl rfl (HB.out _)
     ·have hfin:bA k s n=true:=by simp [bA,h1,h2,h3,h7,h9]
      rw [k9] at h9;rw [h9] at he;rw [hfin];clear hfin HF h9
      go_enter Tryz.func76,Tryz.ntmps76
      go_wp2_with fail
      go_ret
      exact b7 rfl rfl (HB.out _)
    ·have hfin:bA k s n=false:=by simp [bA,h1,h2,h3,h7]
     rw [hfin];clear hfin he HF
     go_enter Tryz.func76,Tryz.ntmps76
     go_wp2_with fail
     go_ret
     exact b7 rfl rfl (HB.out _)
  ·skip
   by_cases h7:1<n
   ·skip
    cases h9:k9 s
    ·have hfin:bA k s n=false:=by simp [bA,h1,h2,h7,h9]
     rw [k9] at h9;rw [h9] at he;rw [hfin];clear hfin HF h9
     go_enter Tryz.func76,Tryz.ntmps76
     go_wp2_with fail
     go_ret
     exact b7 rfl rfl (HB.out _)
    ·have hfin:bA k s n=true:=by simp [bA,h1,h2,h7,h9]
     rw [k9] at h9;rw [h9] at he;rw [hfin];clear hfin HF h9
     go_enter Tryz.func76,Tryz.ntmps76
     go_wp2_with fail
     go_ret
     exact b7 rfl rfl (HB.out _)
   ·have hfin:bA k s n=false:=by simp [bA,h1,h2,h7]
    rw [hfin];clear hfin he HF
    go_enter Tryz.func76,Tryz.ntmps76
    go_wp2_with fail
    go_ret
    exact b7 rfl rfl (HB.out _)
 ·by_cases h7:n=0
  ·have h8:((n:Int)==0)=true:=by simp [h7]
   have hfin:bA k s n=cZ s:=by simp [bA,h1,h7]
   rw [hfin];clear hfin he h7
   go_enter Tryz.func76,Tryz.ntmps76
   go_wp2_with fail
   refine (HF.out _).mono ?_;rintro e w1 ⟨rfl,hb1⟩
   go_wp2_with fail
   go_ret
   exact b7 rfl rfl (cQ (HB.out _) hb1)
  ·have h8:((n:Int)==0)=false:=by simp;omega
   have hfin:bA k s n=false:=by simp [bA,h1,h7]
   rw [hfin];clear hfin he HF
   go_enter Tryz.func76,Tryz.ntmps76
   go_wp2_with fail
   go_ret
   exact b7 rfl rfl (HB.out _)
section
open Go.RowKit Go.Shelf
attribute [local go_sem] Oper.semAt_some
def IS (l:List l7):List ByteArray:=l.flatMap (fun p=>[p.aD,p.to])
end
section
open Go.RowKit Go.Shelf
attribute [local go_sem] Oper.semAt_some
def yt (out:List ByteArray) (s:ByteArray):List ByteArray:=if hasB out s then out else out++[s]
def LM (xs:List ByteArray):List ByteArray:=xs.foldl yt []
theorem Kg:(Tryz.prog.info? 9).map (fun i=>(i.zero,i.size,i.bytes))=some (some (.string ⟨#[]⟩),1,16):=by kernel_rfl
theorem Bc {w:World} {base:Nat} {e:TypeId} {v:Value} {xs:List ByteArray} (h:w.ownsRow base e 1 v xs.length (xs.map Value.string)):mj w xs v:=by
 obtain ⟨_,h|⟨g,cap,cur,rfl,_,hg,h1,h2,h3,h4⟩⟩:=h
 ·exact .inl ⟨.inl h.1,List.length_eq_zero_iff.1 h.2⟩
 ·refine .inr ⟨g,0,cap,rfl,h1,h2,fun i x hx=>⟨[.string x],rfl, ?_,trivial⟩⟩;rw [au hg];have hi:=(List.getElem?_eq_some_iff.1 hx).1
  have:(cur.toList.take (xs.length * 1))[i]? = some (.string x):=by rw [h4];simp [hx]
  rw [List.getElem?_take_of_lt (by omega)] at this;simpa using this
end
section
open Go.RowKit Go.Shelf
attribute [local go_sem] Oper.semAt_some
theorem EA {w:World} {base:Nat} {e:TypeId} {z:Nat} {v:Value} {n:Nat} {xs:List Value} (h:w.ownsRow base e z v n xs): ∀b off n c,v = .slice (some ⟨b,off,none⟩) n c->base<=b:=by
 intro b off m c hv
 rcases h.2 with ⟨rfl,_⟩|⟨g,cap,cur,rfl,hg,_⟩
 ·cases hv
 ·cases hv;exact hg
theorem toList_inj {s t:ByteArray}:(s.toList==t.toList)=true↔s=t:=by
 refine ⟨fun h=> ?_,fun h=>by subst h;simp⟩;have h:=eq_of_beq h;rw [ByteArray.toList_eq,ByteArray.toList_eq] at h;obtain ⟨⟨l⟩⟩:=s;obtain ⟨⟨m⟩⟩:=t;have h:l=m:=h;subst h;rfl
def Sa (q:Di):List sY:=q.conds.flatMap (fun c=>[c.left,c.right])++q.ret
def Ce (o:sY):Int:=if o.kind==1 then 2 else if o.kind==3 then o.val.kind else 0
def MO (vs:List ByteArray):Option (List ByteArray)->l7->Option (List ByteArray)
 | none,_=>none
 | some ns,p=>if k9 p.name then some ns else if hasB ns p.name||hasB vs p.name then none else some (ns++[p.name])
def UB (vs:List ByteArray) (ps:List l7):Option (List ByteArray):=ps.foldl (MO vs) (some [])
def Ux (vs ns:List ByteArray):List (ByteArray×Int):=vs.map (·, 1)++ns.map (·, 2)
def KF (vs ns:List ByteArray) (o:sY):Bool:=if o.kind==1 then hasB vs o.name else if o.kind==2 then hasB ns o.name else true
def Ll (c:BD):Bool:=Ce c.left !=0&&Ce c.right !=0&&Ce c.left !=Ce c.right
def Ur (q:Di):Int:=if H5 q then
  match UB (LM (IS q.p9)) q.p9 with
  | none=>9
  | some ns=>if (Sa q).all (KF (LM (IS q.p9)) ns) then (if q.conds.any Ll then 10 else 0) else 8
 else 2
theorem Ip {s t:ByteArray}:dD s t=true↔s=t:=toList_inj
def Ul (l:List ByteArray):Prop:= ∀k (h:k<l.length),hasB (l.take k) l[k]=false
def UI (a b:List ByteArray) (s:ByteArray):ByteArray:=if vD a s<0 then s else b.getD (vD a s).toNat ⟨#[]⟩
def Uz (f:ByteArray->ByteArray) (x:sY):sY:=if x.kind=1∨x.kind=2 then { x with name:=f x.name } else x
structure UT (f:ByteArray->ByteArray):Prop where
 inj: ∀s t,f s=f t->s=t
 free: ∀s,cZ (f s)=cZ s
 no: ∀s,k9 (f s)=k9 s
def UX {α:Type} (k:Nat) (l:List α):List α:=l.drop k++l.take k
def UF:List ByteArray:=[⟨#[97]⟩,⟨#[98]⟩,⟨#[99]⟩,⟨#[100]⟩,⟨#[101]⟩,⟨#[102]⟩,⟨#[103]⟩]
def KG (p q:l7):Bool:=if dD p.aD q.aD&&dD p.to q.to&&p.path==q.path then (if p.path then Aj p.expr q.expr else k9 p.name&&k9 q.name&&dD p.label q.label) else false
def Mq (ps:List l7) (k:Nat):Bool:=match ps[k]? with
 | some p=>(ps.take k).any (fun a=>KG a p)
 | none=>false
def R9 (ps:List l7) (i:Nat):List Nat:=((List.range ps.length).drop i).filter (fun k=> !Mq ps k)
def Pd (ps:List l7):List Nat:=R9 ps 0
def JQ (p:l7):List ByteArray:=p.aD :: p.to :: (if !p.path && !k9 p.name then [p.name] else [])
def Et (ps:List l7) (out:List ByteArray) (k:Int):List ByteArray:=if 0<=k∧k<ps.length then (match ps[k.toNat]? with|some p=>(JQ p).foldl yt out|none=>out) else out
def rT (ps:List l7) (ks:List Int):List ByteArray:=ks.foldl (Et ps) []
def Pe (b:Bool):Nat:=if b then 1 else 0
def OT (ps:List l7) (names:List ByteArray) (k:Int):Nat:=if 0<=k∧k<ps.length then (match ps[k.toNat]? with|some p=>Pe (hasB names p.aD)+Pe (hasB names p.to)|none=>0) else 0
def MY (ps:List l7) (k:Nat):Bool:=match ps[k]? with
 | some p=>p.path
 | none=>false
def yE (ps:List l7) (names:List ByteArray) (k:Nat):Int:=2 * (OT ps names k:Int)+(if MY ps k then 0 else 1)
def O9 (r:Nat->Int):List Nat->Nat->Nat
 | [],m=>m
 | k :: l,m=>O9 r l (if r k - r m > 0 then k else m)
def nX (l:List Nat):List Int:=l.map (fun k:Nat=>(k:Int))
def LK (ps:List l7) (out:List Nat):List Nat->Nat
 | []=>0
 | a :: l=>O9 (yE ps (rT ps (nX out))) l a
def Tz (ps:List l7):Nat->List Nat->List Nat->List Nat
 | 0,out,_=>out
 | n+1,out,left=>if left.isEmpty then out else Tz ps n (out++[LK ps out left]) (left.filter (fun k=>k !=LK ps out left))
structure Tt (ps:List l7) (out left l:List Nat):Prop where
 len:l.length=out.length+left.length
 pre:l.take out.length=out
 mem: ∀k,k∈l->k∈out∨k∈left
 Ty:l.Nodup
 Up: ∀(i k:Nat) (hi:i<l.length) (hk:k<l.length),out.length<=i->i<k->yE ps (rT ps (nX (l.take i))) l[k]<=yE ps (rT ps (nX (l.take i))) l[i]∧(yE ps (rT ps (nX (l.take i))) l[k]=yE ps (rT ps (nX (l.take i))) l[i]->l[i]<l[k])
def UE (ps:List l7):List Nat:=Tz ps (Pd ps).length [] (Pd ps)
theorem ea: ∀ {a b:List Nat},a.Pairwise (· < ·)->b.Pairwise (· < ·)->(∀j,j∈a↔j∈b)->a=b
 | [],[],_,_,_=>rfl
 | [],y :: b,_,_,h=>by have:=(h y).2 V4;simp at this
 | x :: a,[],_,_,h=>by have:=(h x).1 V4;simp at this
 | x :: a,y :: b,ha,hb,h=>by
  rw [Wq] at ha hb
  have hxy:x=y:=by
   rcases Wr.1 ((h x).1 V4) with e|e
   ·exact e
   ·rcases Wr.1 ((h y).2 V4) with e2|e2
    ·exact e2.symm
    ·have h1:=hb.1 x e;have h2:=ha.1 y e2;omega
  subst hxy;refine congrArg (x :: ·) (ea ha.2 hb.2 (fun j=> ?_))
  have:=h j
  simp only [Wr] at this
  constructor
  ·intro hj
   rcases this.1 (.inr hj) with e|e
   ·have:=ha.1 j hj;omega
   ·exact e
  ·intro hj
   rcases this.2 (.inr hj) with e|e
   ·have:=hb.1 j hj;omega
   ·exact e
theorem gQ: ∀ {a b:List Nat},a.Pairwise (· < ·)->b.Pairwise (· < ·)->(∀j,j∈a->j∈b)->a.length<=b.length∧(a.length=b.length->a=b)
 | [],b,_,_,_=>⟨Nat.zero_le _,fun h=>(List.eq_nil_of_length_eq_zero h.symm).symm⟩
 | x :: a,[],_,_,h=>by have:=h x V4;simp at this
 | x :: a,y :: b,ha,hb,h=>by
  rw [Wq] at ha hb
  by_cases hxy:x=y
  ·subst hxy
   obtain ⟨h1,h2⟩:=gQ ha.2 hb.2 (fun j hj=>by
    rcases Wr.1 (h j (V2 _ hj)) with e|e
    ·have:=ha.1 j hj;omega
    ·exact e)
   exact ⟨by simpa using h1,fun e=>by rw [h2 (by simpa using e)]⟩
  ·have hx:x∈b:=(Wr.1 (h x V4)).resolve_left hxy;have hyx:=hb.1 x hx
   obtain ⟨h1,h2⟩:=gQ (Wq.2 ha) hb.2 (fun j hj=>by
    rcases Wr.1 (h j hj) with e|e
    ·rcases Wr.1 hj with e2|e2
     ·omega
     ·have:=ha.1 j e2;omega
    ·exact e)
   simp only [List.length_cons] at h1 ⊢;exact ⟨by omega,fun e=>by omega⟩
def ja (l:List Nat):List Nat:=(List.range (l.foldr max 0+1)).filter (fun j=>l.contains j)
theorem le_max: ∀ {l:List Nat} {j:Nat},j∈l->j<=l.foldr max 0
 | x :: l,j,h=>by
  rw [List.foldr_cons]
  rcases Wr.1 h with rfl|h
  ·omega
  ·have:=le_max h;omega
theorem gS {l:List Nat} {j:Nat}:j∈ja l↔j∈l:=by
 simp only [ja,List.mem_filter,List.mem_range,List.contains_iff_mem];exact ⟨fun h=>h.2,fun h=>⟨by have:=le_max h;omega,h⟩⟩
theorem ll (l:List Nat):(ja l).Pairwise (· < ·):=Ws.filter _
theorem Nr {l:List Nat} (h:l.Pairwise (· < ·)):ja l=l:=ea (ll l) h (fun j=>gS)
theorem La (l:List Nat):(ja l).length<=l.length:=by
 have hn:(ja l).Nodup:=(ll l).imp (fun h=>by omega)
 have key: ∀(a b:List Nat),a.Nodup->(∀j,j∈a->j∈b)->a.length<=b.length:=by
  intro a
  induction a with
  | nil=>intro b _ _;simp
  | cons x a ih=>
   intro b hn h;rw [List.nodup_cons] at hn;have hx:=h x V4
   have:=ih (b.erase x) hn.2 (fun j hj=>by
    refine (List.mem_erase_of_ne ?_).2 (h j (V2 _ hj))
    rintro rfl;exact hn.1 hj)
   rw [List.length_erase_of_mem hx] at this;have hp:0<b.length:=List.length_pos_of_mem hx;simp only [List.length_cons];omega
 exact key _ _ hn (fun j=>gS.1)
theorem cV {l:List Nat} {n:Nat} (h:l.Pairwise (· < ·)) (hb: ∀j,j∈l->j<n):l.length<=n:=by
 have:=(gQ h (b:=List.range n) Ws (fun j hj=>List.mem_range.2 (hb j hj))).1
 simpa using this
open Go.Lib in
theorem Gc (d:Array Int) (hs: ∀i j,i<=j->j<d.size->d[i]! <= d[j]!): ∀m,m<=d.size->(compactUpTo d m).Pairwise (· < ·)∧(∀x,x∈compactUpTo d m ↔ ∃j,j<m∧x=d[j]!)∧ ∀x,x∈compactUpTo d m->x<=d[m - 1]!
 | 0,_=>⟨by simp [compactUpTo],fun x=>by simp [compactUpTo],fun x h=>by simp [compactUpTo] at h⟩
 | m+1,hm=>by
  obtain ⟨h1,h2,h3⟩:=Gc d hs m (by omega);rw [compactUpTo_succ]
  have hle: ∀x,x∈compactUpTo d m->x<=d[m]! :=fun x hx=>by
   rcases Nat.eq_zero_or_pos m with e|e
   ·subst e;simp [compactUpTo] at hx
   ·exact Int.le_trans (h3 x hx) (hs (m - 1) m (by omega) (by omega))
  by_cases hk:keeps d m=true
  ·rw [if_pos hk]
   refine ⟨?_,fun x=> ?_,fun x hx=> ?_⟩
   ·rw [List.pairwise_append];refine ⟨h1,by simp,fun a ha b hb=> ?_⟩;simp only [Wr,Wt,or_false] at hb;subst hb;have ha2:=hle a ha
    rcases Nat.eq_zero_or_pos m with e|e
    ·subst e;simp [compactUpTo] at ha
    ·have hne:d[m]! ≠ d[m - 1]! :=by
      simp only [keeps,decide_eq_true_eq] at hk
      rcases hk with hk|hk
      ·omega
      ·exact hk
     have h4:=h3 a ha;have h5:=hs (m - 1) m (by omega) (by omega);omega
   ·simp only [List.mem_append,Wr,Wt,or_false,h2 x]
    constructor
    ·rintro (⟨j,hj,rfl⟩|rfl)
     ·exact ⟨j,by omega,rfl⟩
     ·exact ⟨m,by omega,rfl⟩
    ·rintro ⟨j,hj,rfl⟩
     rcases U6 j m with q|q
     ·exact .inl ⟨j,q,rfl⟩
     ·obtain rfl:j=m:=by omega
      exact .inr rfl
   ·rw [Nat.add_sub_cancel];simp only [List.mem_append,Wr,Wt,or_false] at hx
    rcases hx with hx|rfl
    ·exact hle x hx
    ·exact Int.le_refl _
  ·rw [if_neg hk,List.append_nil]
   have hm0:m≠0∧d[m]! = d[m - 1]! :=by
    simp only [keeps,decide_eq_true_eq] at hk;exact ⟨fun e=>hk (.inl e),Classical.byContradiction fun e=>hk (.inr e)⟩
   refine ⟨h1,fun x=> ?_,fun x hx=>by rw [Nat.add_sub_cancel];exact hle x hx⟩;rw [h2 x]
   constructor
   ·rintro ⟨j,hj,rfl⟩;exact ⟨j,by omega,rfl⟩
   ·rintro ⟨j,hj,rfl⟩
    rcases U6 j m with q|q
    ·exact ⟨j,q,rfl⟩
    ·obtain rfl:j=m:=by omega
     exact ⟨j - 1,by omega,hm0.2⟩
open Go.Lib in
theorem vq (l:List Nat):Go.Lib.compact ((nX l).mergeSort (fun x y=>decide (x<=y)))=nX (ja l):=by
 have hsort:((nX l).mergeSort (fun x y=>decide (x<=y))).Pairwise (fun x y=>decide (x<=y)=true):=List.pairwise_mergeSort (fun a b c h1 h2=>by simp only [decide_eq_true_eq] at *; omega) (fun a b=>by simp only [Bool.or_eq_true,decide_eq_true_eq];omega) _;have hperm:=List.mergeSort_perm (nX l) (fun x y=>decide (x<=y));generalize (nX l).mergeSort (fun x y=>decide (x<=y))=s at hsort hperm
 have hs: ∀i j,i<=j->j<s.toArray.size->s.toArray[i]! <= s.toArray[j]! :=fun i j hij hj=>by
  have hj':j<s.length:=by simpa using hj
  have hi':i<s.length:=by omega
  rw [getElem!_pos s.toArray i (by simpa using hi'),getElem!_pos s.toArray j hj];simp only [List.getElem_toArray]
  rcases U6 i j with q|q
  ·have:=List.pairwise_iff_getElem.1 hsort i j hi' hj' q
   simpa using this
  ·obtain rfl:i=j:=by omega
   exact Int.le_refl _
 obtain ⟨h1,h2,_⟩:=Gc s.toArray hs s.length (by simp);show compactUpTo s.toArray s.length=_;generalize compactUpTo s.toArray s.length=c at h1 h2
 have hmem: ∀x,x∈c↔x∈nX l:=fun x=>by
  rw [h2 x, <- hperm.mem_iff]
  constructor
  ·rintro ⟨j,hj,rfl⟩;rw [getElem!_pos s.toArray j (by simpa using hj)];simp
  ·intro hx;obtain ⟨j,hj,rfl⟩:=List.getElem_of_mem hx;exact ⟨j,hj,by rw [getElem!_pos s.toArray j (by simpa using hj)];simp⟩
 have hc:c=nX (c.map Int.toNat):=by
  rw [nX,List.map_map];refine (List.map_id' c).symm.trans (List.map_congr_left (fun x hx=> ?_))
  have:=(hmem x).1 hx
  simp only [nX,Wu] at this;obtain ⟨j,_,rfl⟩:=this;simp
 rw [hc]
 congr 1
 refine ea ?_ (ll l) (fun j=> ?_)
 ·rw [List.pairwise_map];refine h1.imp_of_mem (fun {a b} ha hb h=> ?_);have h3:=(hmem a).1 ha;have h4:=(hmem b).1 hb;simp only [nX,Wu] at h3 h4;obtain ⟨i,_,rfl⟩:=h3;obtain ⟨k,_,rfl⟩:=h4;omega
 ·rw [gS,Wu]
  constructor
  ·rintro ⟨x,hx,rfl⟩;have h3:=(hmem x).1 hx;simp only [nX,Wu] at h3;obtain ⟨i,hi,rfl⟩:=h3;simpa using hi
  ·intro hj;exact ⟨(j:Int),(hmem _).2 (by simp only [nX,Wu];exact ⟨j,hj,rfl⟩),by simp⟩
end
section
noncomputable def bh (w:List ByteArray) (L:List ByteArray->Prop) (fr:List Nat):List Nat:=(List.range (w.length+1)).filter (fun j=> @decide (∃i,i∈fr∧Tk L w i j) (Classical.propDecidable _))
theorem de {w:List ByteArray} {L:List ByteArray->Prop} {fr:List Nat} {j:Nat}:j∈bh w L fr ↔ ∃i,i∈fr∧Tk L w i j:=by
 simp only [bh,List.mem_filter,List.mem_range,decide_eq_true_eq];exact ⟨fun h=>h.2,fun h=>⟨by obtain ⟨i,_,h⟩:=h;have:=h.2.1;omega,h⟩⟩
theorem dM (w:List ByteArray) (L:List ByteArray->Prop) (fr:List Nat):(bh w L fr).Pairwise (· < ·):=List.pairwise_lt_range.filter _
theorem BY {w:List ByteArray} {L:List ByteArray->Prop} {fr:List Nat} {j:Nat} (h:j∈bh w L fr):j<=w.length:=by
 obtain ⟨i,_,h⟩:=de.1 h;exact h.2.1
theorem kL (w:List ByteArray) (L:List ByteArray->Prop) (fr:List Nat):(bh w L fr).length<=w.length+1:=cV (dM w L fr) (fun j h=>by have:=BY h;omega)
theorem ji {w:List ByteArray} {L M:List ByteArray->Prop} {fr:List Nat} (h: ∀u,L u↔M u):bh w L fr=bh w M fr:=ea (dM _ _ _) (dM _ _ _) (fun j=>by
 rw [de,de]
 simp only [Tk,h])
theorem F5 {w:List ByteArray} {L:List ByteArray->Prop} {fr l:List Nat} (h: ∀j,j∈l ↔ ∃i,i∈fr∧Tk L w i j):ja l=bh w L fr:=ea (ll _) (dM _ _ _) (fun j=>by rw [gS,de];exact h j)
theorem Ue (s:ByteArray) (l:List Ex): ∀u,Lg (.mk 1 s l) u↔u=[s]:=fun u=>by simp [Lg]
theorem Uf (s:ByteArray) (l:List Ex): ∀u,Lg (.mk 2 s l) u↔bT l u:=fun u=>by simp [Lg]
theorem Ug (s:ByteArray) (l:List Ex): ∀u,Lg (.mk 3 s l) u↔l6 l u:=fun u=>by simp [Lg]
theorem Uh (s:ByteArray) (x:Ex): ∀u,Lg (.mk 4 s [x]) u↔bF (Lg x) u:=fun u=>by
 have:pW [x]=Lg x:=by funext u;simp [pW]
 simp [Lg,this]
theorem Ui (s:ByteArray) (x:Ex): ∀u,Lg (.mk 5 s [x]) u ↔ ∃a b,u=a++b∧Lg x a∧bF (Lg x) b:=fun u=>by
 have:pW [x]=Lg x:=by funext u;simp [pW]
 simp [Lg,this]
theorem Uj (s:ByteArray) (x:Ex): ∀u,Lg (.mk 6 s [x]) u↔u=[]∨Lg x u:=fun u=>by simp [Lg,pW]
theorem Ny {w:List ByteArray} {s:ByteArray} {i j:Nat}:Tk (fun u=>u=[s]) w i j ↔ ∃h:i<w.length,w[i]=s∧j=i+1:=by
 constructor
 ·rintro ⟨h1,h2,h3⟩
  have hl:j - i=1:=by rw [<-lE h2,h3];rfl
  have hi:i<w.length:=by omega
  refine ⟨hi, ?_,by omega⟩;rw [vj,hl,Wv hi,List.take_succ_cons,List.take_zero] at h3;exact List.head_eq_of_cons_eq h3
 ·rintro ⟨h,rfl,rfl⟩;refine ⟨by omega,by omega, ?_⟩;show vj w i (i+1)=[w[i]];rw [vj,show i+1 - i=1 by omega,Wv h,List.take_succ_cons,List.take_zero]
def mJ (w:List ByteArray) (s:ByteArray) (fr:List Nat):List Nat:=(fr.filter (fun k=>decide (w[k]? = some s))).map (· + 1)
theorem Kl (w:List ByteArray) (s:ByteArray) (l:List Ex) (fr:List Nat):ja (mJ w s fr)=bh w (Lg (.mk 1 s l)) fr:=by
 rw [ji (Ue s l)];refine F5 (fun j=> ?_);simp only [mJ,List.mem_map,List.mem_filter,decide_eq_true_eq,Ny]
 constructor
 ·rintro ⟨k,⟨h1,h2⟩,rfl⟩;obtain ⟨h3,h4⟩:=U4.1 h2;exact ⟨k,h1,h3,h4,rfl⟩
 ·rintro ⟨k,h1,h3,h4,rfl⟩;exact ⟨k,⟨h1,U4.2 ⟨h3,h4⟩⟩,rfl⟩
theorem Em (w:List ByteArray) (s:ByteArray) (fr:List Nat) (i:Nat) (h:i<fr.length):mJ w s (fr.take (i+1))=mJ w s (fr.take i)++(if w[fr[i]]? = some s then [fr[i]+1] else []):=by
 rw [List.take_succ_eq_append_getElem h,mJ,List.filter_append,List.map_append,mJ]
 congr 1
 by_cases h:w[fr[i]]? = some s<;>simp [h]
theorem Mv {w:List ByteArray} {fr:List Nat} (h:fr.Pairwise (· < ·)) (hb: ∀j,j∈fr->j<=w.length):bh w (bT []) fr=fr:=ea (dM _ _ _) h (fun j=>by
 rw [de]
 constructor
 ·rintro ⟨i,hi,ht⟩;obtain ⟨rfl,_⟩:=Tk.CA.1 ht;exact hi
 ·intro hj
  exact ⟨j,hj,Tk.CA.2 ⟨rfl,hb j hj⟩⟩)
theorem JL (w:List ByteArray) (xs:List Ex) (x:Ex) (fr:List Nat):bh w (Lg x) (bh w (bT xs) fr)=bh w (bT (xs++[x])) fr:=ea (dM _ _ _) (dM _ _ _) (fun j=>by
 rw [de,de]
 constructor
 ·rintro ⟨k,hk,ht⟩;obtain ⟨i,hi,hs⟩:=de.1 hk;exact ⟨i,hi,Tk.yN.2 ⟨k,hs,ht⟩⟩
 ·rintro ⟨i,hi,ht⟩;obtain ⟨k,hs,ht⟩:=Tk.yN.1 ht
  exact ⟨k,de.2 ⟨i,hi,hs⟩,ht⟩)
theorem Bo (w:List ByteArray) (L:List ByteArray->Prop) (fr:List Nat):ja (bh w L fr)=bh w L fr:=Nr (dM _ _ _)
theorem Ms (w:List ByteArray) (l:List Ex) (fr:List Nat):ja (l.flatMap (fun x=>bh w (Lg x) fr))=bh w (l6 l) fr:=F5 (fun j=>by
 simp only [List.mem_flatMap,de,Tk,oA]
 constructor
 ·rintro ⟨x,hx,i,hi,h1,h2,h3⟩;exact ⟨i,hi,h1,h2,x,hx,h3⟩
 ·rintro ⟨i,hi,h1,h2,x,hx,h3⟩;exact ⟨x,hx,i,hi,h1,h2,h3⟩)
theorem MT (w:List ByteArray) (s:ByteArray) (x:Ex) (fr:List Nat) (hb: ∀j,j∈fr->j<=w.length):ja (fr++bh w (Lg x) fr)=bh w (Lg (.mk 6 s [x])) fr:=by
 rw [ji (Uj s x)];refine F5 (fun j=> ?_);rw [Ww,de]
 constructor
 ·rintro (h|⟨i,hi,h1,h2,h3⟩)
  ·exact ⟨j,h,Nat.le_refl _,hb j h, .inl (nk w j)⟩
  ·exact ⟨i,hi,h1,h2, .inr h3⟩
 ·rintro ⟨i,hi,h1,h2,h3|h3⟩
  ·left
   have:=lE (w:=w) (i:=i) h2
   rw [h3] at this
   have e:i=j:=by simp at this;omega
   rw [<-e];exact hi
  ·exact .inr ⟨i,hi,h1,h2,h3⟩
theorem KM (w:List ByteArray) (s:ByteArray) (x:Ex) (fr:List Nat):bh w (bF (Lg x)) (bh w (Lg x) fr)=bh w (Lg (.mk 5 s [x])) fr:=by
 rw [ji (Ui s x)];refine ea (dM _ _ _) (dM _ _ _) (fun j=> ?_);rw [de,de]
 constructor
 ·rintro ⟨k,hk,h1,h2,h3⟩;obtain ⟨i,hi,k1,k2,k3⟩:=de.1 hk;exact ⟨i,hi,by omega,h2,vj w i k,vj w k j,(qe k1 h1).symm,k3,h3⟩
 ·rintro ⟨i,hi,h1,h2,a,b,h3,h4,h5⟩;obtain ⟨k,k1,k2,k3,k4⟩:=qU h1 h2 h3;exact ⟨k,de.2 ⟨i,hi,k1,by omega,by rw [k3];exact h4⟩,k2,h2,by rw [k4];exact h5⟩
theorem Lc (w:List ByteArray) (s:ByteArray) (x:Ex) (fr:List Nat):bh w (bF (Lg x)) fr=bh w (Lg (.mk 4 s [x])) fr:=(ji (Uh s x)).symm
structure Md (w:List ByteArray) (L:List ByteArray->Prop) (fr out:List Nat):Prop where
 iC:out.Pairwise (· < ·)
 le: ∀j,j∈out->j<=w.length
 sub: ∀j,j∈fr->j∈out
 RU: ∀j,j∈out-> ∃i,i∈fr∧Tk (bF L) w i j
theorem Md.start {w:List ByteArray} {L:List ByteArray->Prop} {fr:List Nat} (h:fr.Pairwise (· < ·)) (hb: ∀j,j∈fr->j<=w.length):Md w L fr fr:=⟨h,hb,fun _ h=>h,fun j hj=>⟨j,hj,Tk.E1 (hb j hj)⟩⟩
theorem Md.next {w:List ByteArray} {L:List ByteArray->Prop} {fr out:List Nat} (h:Md w L fr out):Md w L fr (ja (out++bh w L out))∧out.length<=(ja (out++bh w L out)).length∧(ja (out++bh w L out)).length<=w.length+1∧((ja (out++bh w L out)).length=out.length->out=bh w (bF L) fr):=by
 have hn:Md w L fr (ja (out++bh w L out)):=by
  refine ⟨ll _,fun j hj=> ?_,fun j hj=>gS.2 (Wx _ (h.sub j hj)),fun j hj=> ?_⟩
  ·rcases Ww.1 (gS.1 hj) with e|e
   ·exact h.le j e
   ·exact BY e
  ·rcases Ww.1 (gS.1 hj) with e|e
   ·exact h.RU j e
   ·obtain ⟨k,hk,ht⟩:=de.1 e;obtain ⟨i,hi,hs⟩:=h.RU k hk;exact ⟨i,hi,Tk.Bq hs (Tk.Iz ht)⟩
 have hs:=gQ h.iC hn.iC (fun j hj=>gS.2 (Wx _ hj));refine ⟨hn,hs.1,cV hn.iC (fun j hj=>by have:=hn.le j hj;omega),fun e=> ?_⟩;have he:=hs.2 e.symm;refine ea h.iC (dM _ _ _) (fun j=> ?_);rw [de]
 constructor
 ·exact h.RU j
 ·rintro ⟨i,hi,ht⟩;refine Tk.yR (fun k=>k∈out) (fun a b ha hab=> ?_) (h.sub i hi) ht;rw [he];exact gS.2 (List.mem_append_right _ (de.2 ⟨a,ha,hab⟩))
section
variable {P:Program} {ops:Array Oper} {N:kD}
def qC (P:Program) (ops:Array Oper) (S:fY N) (j:Nat) (o:Oper) (a:Act) (g:N.G):Prop:=
 (Region.wanted o (yielded ops a.tmps)=true∧RL P S j g ((execOp a.eval o).run P (N.wd g)))∨(Region.wanted o (yielded ops a.tmps)=false∧ ∃g',N.wd g'=N.wd g∧N.R g g'∧(∀i,i≠j->N.pre i g->N.pre i g')∧S.p undef g')
def Ey (P:Program) (ops:Array Oper) (L:List (fY N)) (g0:N.G) (Q:Act->World->Prop):List Oper->Nat->((Nat->Value)->Act)->Prop
 | [],k,A=> ∀x g,N.R g0 g->(∀i,i<k->(vi L i).p (x i) g)->Q (A x) (N.wd g)
 | o :: l,k,A=>(∀x g,N.R g0 g->(∀i,aG ops k i=true->(vi L i).p (x i) g)->N.pre k g->qC P ops (vi L k) k o (A x) g)∧Ey P ops L g0 Q l (k+1) (fun x=>(A x).put o.dst (x k))
def Cq (ops:Array Oper) (i j:Nat):Bool:=
 match ops[i]?,ops[j]? with
 | some oi,some oj=>(aG ops j i||match oi.dst with|some d=> !(oj.looksAt ops).contains d|none=>true) && !aG ops i j&&(match oi.dst with|some d=>oj.dst !=some d|none=>true)&&(aG ops j i||match oj.dst with|some d=> !(oi.looksAt ops).contains d|none=>true)
 | _,_=>true
def nR (ops:Array Oper):Bool:=
 Region.noSelect ops&&(List.range ops.size).all (fun j=>(List.range j).all (fun i=>Cq ops i j)&&(!aG ops j j&&Ak ops j))
def Jm (P:Program) (l:List Oper) (L:List (fY N)) (g0:N.G) (a0:Act) (j:Nat) (o:Oper):Prop:=
 ∀x g,N.R g0 g->(∀i,aG l.toArray j i=true->(vi L i).p (x i) g)->N.pre j g->qC P l.toArray (vi L j) j o (cX (fun i=>decide (i<j)) x l 0 a0) g
theorem yp {l:List Oper} {L:List (fY N)} {g0:N.G} {Q:Act->World->Prop} {a0:Act} (hA:kC l): ∀(l':List Oper) (k:Nat) (A:(Nat->Value)->Act),l.drop k=l'->(A=fun x=>cX (fun i=>decide (i<k)) x l 0 a0)->k<=l.length ->
  Ey P l.toArray L g0 Q l' k A->(∀j o,k<=j->l[j]? = some o->Jm P l L g0 a0 j o)∧(∀x g,N.R g0 g->(∀i,i<l.length->(vi L i).p (x i) g)->Q (cX (fun i=>decide (i<l.length)) x l 0 a0) (N.wd g))
 | [],k,A,hl,hAx,hk,h=>by
  have h1:l.length=k:=by have:=congrArg List.length hl;simp at this;omega
  subst hAx
  refine ⟨fun j o hj ho=> ?_,fun x g hg hs=> ?_⟩
  ·have:=(U4.1 ho).1;omega
  ·rw [h1] at hs ⊢; exact h x g hg hs
 | o :: l',k,A,hl,hAx,hk,h=>by
  have h1:l.length=k+(l'.length+1):=by have:=congrArg List.length hl;simp at this;omega
  have h2:l[k]? = some o:=by have:=congrArg (fun m=>m[0]?) hl;simpa using this
  subst hAx
  have rcr:=yp hA l' (k+1) _ (by have:=congrArg List.tail hl;simpa using this) (by
    funext x
    have hi:=iT (s:=fun i=>decide (i<k)) (x:=x) (v:=x k) l 0 k a0 hA h2 (by simp);rw [Nat.zero_add] at hi;rw [<-hi];refine bE l 0 a0 (fun i _ _=> ?_)
    by_cases hik:i=k
    ·subst hik;simp [bR,gG]
    ·have:(i<k+1)=(i<k):=by apply propext;omega
     simp [bR,gG,hik,this]) (by omega) h.2
  refine ⟨fun j o' hj ho=> ?_,rcr.2⟩
  by_cases hjk:j=k
  ·subst hjk;rw [h2] at ho;cases ho;exact h.1
  ·exact rcr.1 j o' (by omega) ho
theorem fL {Q:Exit->Act->World->Prop} {a:Act} {w:World} {l:List Oper} (L:List (fY N)) (hB:nR l.toArray=true) (g0:N.G) (hg0:N.wd g0=w.drew) (hp0: ∀j,N.pre j g0)
  (h:Ey P l.toArray L g0 (Q .normal) l 0 (fun _=>a)):wpAny P .any l.toArray Q l.toArray.size (Array.replicate l.toArray.size false) a w.drew:=by
 simp only [nR,VS,List.all_eq_true,List.mem_range,List.size_toArray] at hB;obtain ⟨hns,hall⟩:=hB;have hsel:=Region.noSelect_spec hns
 have hpair: ∀i j oi oj,i<j->l[i]? = some oi->l[j]? = some oj->(aG l.toArray j i=true∨ ∀e,oi.dst=some e->e∉oj.looksAt l.toArray)∧aG l.toArray i j=false∧(∀e,oi.dst=some e->oj.dst≠some e)∧(aG l.toArray j i=true∨ ∀e,oj.dst=some e->e∉oi.looksAt l.toArray):=by
  intro i j oi oj hij hi hj;have hjn:=(U4.1 hj).1
  have:=(hall j hjn).1 i hij
  simp only [Cq,Vk,hi,hj,VS,Bool.or_eq_true,Bool.not_eq_true'] at this
  refine ⟨?_,this.1.1.2,fun e he=> ?_, ?_⟩
  ·rcases this.1.1.1 with h|h
   ·exact .inl h
   ·refine .inr (fun e he=> ?_);rw [he] at h;simpa using h
  ·have h3:=this.1.2;rw [he] at h3;simpa using h3
  ·rcases this.2 with h|h
   ·exact .inl h
   ·refine .inr (fun e he=> ?_);rw [he] at h;simpa using h
 have hself: ∀j,j<l.length->aG l.toArray j j=false:=fun j hj=>by simpa using (hall j hj).2.1
 have hfar: ∀(j:Nat) (o:Oper),l[j]? = some o-> ∀e∈o.after,e.on<l.length:=fun j o hj e he=>by
  have:=(hall j (U4.1 hj).1).2.2
  simp only [Ak,Vk,hj,Array.all_eq_true_iff_forall_mem] at this;simpa using this e he
 have hA:kC l:=fun i j oi oj hi hj hij e he=>by
  rcases Nat.lt_or_gt_of_ne hij with h|h
  ·exact (hpair i j oi oj h hi hj).2.2.1 e he
  ·intro h2;exact (hpair j i oj oi h hj hi).2.2.1 e h2 he
 obtain ⟨hO,hfin⟩:=yp (P:=P) (L:=L) (g0:=g0) (Q:=Q .normal) (a0:=a) hA l 0 (fun _=>a) (by simp) (by
  funext x
  exact (show a=cX (fun _=>false) x l 0 a from by
   have: ∀(l:List Oper) k,a=cX (fun _=>false) x l k a:=by
    intro l
    induction l with
    | nil=>intro k;rfl
    | cons o l ih=>intro k;rw [cX];exact ih (k+1)
   exact this l 0).trans (bE l 0 a (fun i _ _=>by simp))) (Nat.zero_le _) h
 
 have hloose: ∀i j oi oj,l[i]? = some oi->l[j]? = some oj->i≠j->aG l.toArray j i=false->aG l.toArray i j=false-> ∀d,oi.dst=some d->d∉oj.looksAt l.toArray:=by
  intro i j oi oj hi hj hij hd hd'
  rcases Nat.lt_or_gt_of_ne hij with h|h
  ·rcases (hpair i j oi oj h hi hj).1 with h1|h1
   ·rw [hd] at h1;cases h1
   ·exact h1
  ·rcases (hpair j i oj oi h hj hi).2.2.2 with h1|h1
   ·rw [hd'] at h1;cases h1
   ·exact h1
 
 have hsee: ∀(s s':Nat->Bool) x j oj,l[j]? = some oj->s j=false->s' j=false->(∀i,i<l.length->aG l.toArray i j=true->s i=false∧s' i=false)->(∀i,i<l.length->aG l.toArray j i=true->s i=true∧s' i=true) ->
   execOp (cX s x l 0 a).eval oj=execOp (cX s' x l 0 a).eval oj∧Region.wanted oj (yielded l.toArray (cX s x l 0 a).tmps)=Region.wanted oj (yielded l.toArray (cX s' x l 0 a).tmps):=by
  intro s s' x j oj hj h1 h2 hbk hd
  have one:=fun (s:Nat->Bool) (hs:s j=false) (hs2: ∀i,i<l.length->aG l.toArray i j=true->s i=false)=>pk (ops:=l.toArray) (s:=s) (keep:=aG l.toArray j) (x:=x) (a:=a) hA (fun cs b=>hsel j oj cs b (by simpa using hj))
   (fun i oi hi hsi hk=>hloose i j oi oj hi hj (by intro e;subst e;rw [hsi] at hs;cases hs) hk (by
    cases hq:aG l.toArray i j
    ·rfl
    ·rw [hs2 i (U4.1 hi).1 hq] at hsi;cases hsi))
  obtain ⟨a1,a2⟩:=one s h1 (fun i hi hq=>(hbk i hi hq).1);obtain ⟨b1,b2⟩:=one s' h2 (fun i hi hq=>(hbk i hi hq).2)
  have e:cX (fun i=>s i&&aG l.toArray j i) x l 0 a=cX (fun i=>s' i&&aG l.toArray j i) x l 0 a:=bE l 0 a (fun i _ hi=>by
   refine ⟨?_,fun _=>rfl⟩
   cases hk:aG l.toArray j i
   ·simp
   ·obtain ⟨c1,c2⟩:=hd i (by omega) hk
    simp [c1,c2])
  exact ⟨by rw [a1,b1,e],by rw [a2,b2,e]⟩
 have full: ∀(listed:Array Bool),listed.size=l.length->(∀i,i<l.length->listed.getD i false=true)->Region.ready .any l.toArray listed=[]∧ ∀x,cX (fun i=>listed.getD i false) x l 0 a=cX (fun i=>decide (i<l.length)) x l 0 a:=fun listed hsz hall'=>by
  refine ⟨List.eq_nil_iff_forall_not_mem.2 (fun i hi=> ?_),fun x=>bE l 0 a (fun i _ hi=>⟨?_,fun _=>rfl⟩)⟩
  ·obtain ⟨g1,o,g2, -⟩:=mem_ready.1 hi;have hil:i<l.length:=(U4.1 (show l[i]? = some o by simpa using g2)).1;have g3:=hall' i hil
   have his:i<listed.size:=by omega
   simp only [VV,Array.getElem?_eq_getElem his,Option.getD_some] at g1 g3;rw [g3] at g1;cases g1
  ·have:i<l.length:=by omega
   rw [hall' i this];simp [this]
 have main: ∀fuel (listed:Array Bool) x g1,listed.size=l.length->N.R g0 g1->(∀i,listed.getD i false=true->(vi L i).p (x i) g1) ->
   (∀j i,listed.getD j false=true->aG l.toArray j i=true->listed.getD i false=true)->(∀j,listed.getD j false=false->N.pre j g1)->y7 (fun i=>listed.getD i false) l.length<=fuel ->
   wpAny P .any l.toArray Q fuel listed (cX (fun i=>listed.getD i false) x l 0 a) (N.wd g1):=by
  intro fuel
  induction fuel with
  | zero=>
   intro listed x g1 hsz hE hF hcl hpre hu
   have hall': ∀i,i<l.length->listed.getD i false=true:=fun i hi=>by
    cases hc:listed.getD i false
    ·have:=wy (s:=fun i=>listed.getD i false) l.length hi hc
     omega
    ·rfl
   exact wpAny_done (full listed hsz hall').1 (by rw [(full listed hsz hall').2 x];exact hfin x g1 hE (fun i hi=>hF i (hall' i hi))) 0
  | succ fuel ih=>
   intro listed x g1 hsz hE hF hcl hpre hu
   have hmemR: ∀j,j∈Region.ready .any l.toArray listed-> ∃oj,l[j]? = some oj∧listed.getD j false=false∧ ∀i,aG l.toArray j i=true->listed.getD i false=true:=by
    intro j hj;obtain ⟨h1,o,ho,h3⟩:=mem_ready.1 hj
    refine ⟨o,by simpa using ho, ?_,fun i hi=> ?_⟩
    ·rcases Nat.lt_or_ge j listed.size with h'|h'
     ·simp [h'] at h1 ⊢; exact h1
     ·simp [Array.getElem?_eq_none h']
    ·simp only [aG,ho,VS,beq_iff_eq,Array.any_eq_true'] at hi;obtain ⟨e,he,hb,rfl⟩:=hi;exact h3 e he hb
   refine ⟨fun h0=> ?_,fun j hj=> ?_⟩
   ·
    have hex:(∀i,i<l.length->listed.getD i false=true)∨ ∃m,m<l.length∧listed.getD m false=false∧ ∀i,i<m->listed.getD i false=true:=by
     have: ∀k,k<=l.length->(∀i,i<k->listed.getD i false=true)∨ ∃m,m<l.length∧listed.getD m false=false∧ ∀i,i<m->listed.getD i false=true:=by
      intro k
      induction k with
      | zero=>exact fun _=> .inl (fun i hi=>by omega)
      | succ k ihk=>
       intro hk
       rcases ihk (by omega) with h|h
       ·cases hc:listed.getD k false
        ·exact .inr ⟨k,by omega,hc,h⟩
        ·exact .inl (fun i hi=>by
          by_cases e:i=k
          ·subst e;exact hc
          ·exact h i (by omega))
       ·exact .inr h
     exact this l.length (Nat.le_refl _)
    rcases hex with hall'|hex
    ·rw [(full listed hsz hall').2 x];exact hfin x g1 hE (fun i hi=>hF i (hall' i hi))
    exfalso;obtain ⟨m,hm1,hm2,hm3⟩:=hex
    have hmem:m∈Region.ready .any l.toArray listed:=by
     refine mem_ready.2 ⟨?_,l[m],by simp [hm1],fun e he hb=> ?_⟩
     ·have hms:m<listed.size:=by omega
      simp [hms] at hm2 ⊢; exact hm2
     ·have hd:aG l.toArray m e.on=true:=by
       have:l.toArray[m]? = some l[m]:=by simp [hm1]
       simp only [aG,this];simp only [Array.any_eq_true',VS,beq_iff_eq];exact ⟨e,he,hb,rfl⟩
      rcases Nat.lt_trichotomy e.on m with h|h|h
      ·exact hm3 _ h
      ·rw [h,hself m hm1] at hd;cases hd
      ·by_cases hl:e.on<l.length
       ·have:=(hpair m e.on l[m] l[e.on] h (by simp [hm1]) (by simp [hl])).2.1
        rw [hd] at this;cases this
       ·exact absurd (hfar m l[m] (by simp [hm1]) e he) hl
    rw [h0] at hmem;cases hmem
   ·obtain ⟨oj,hoj,hun,hdeps⟩:=hmemR j hj;have hjl:=(U4.1 hoj).1
    have hsj:(listed.setIfInBounds j true).size=l.length:=by simpa using hsz
    have hgd: ∀i,(listed.setIfInBounds j true).getD i false=bR (fun i=>listed.getD i false) j i:=by
     intro i
     by_cases hij:i=j
     ·subst hij
      have:i<listed.size:=by omega
      simp [bR,this]
     ·simp only [bR,if_neg hij];exact getD_set_ne false (Ne.symm hij)
    have hO:=hO j oj (Nat.zero_le _) hoj;unfold wpOp;simp only [Vk,hoj];have hst:=hO x g1 hE (fun i hi=>hF i (hdeps i hi)) (hpre j hun)
    have hbk: ∀i,i<l.length->aG l.toArray i j=true->listed.getD i false=false∧decide (i<j)=false:=by
     intro i hi hq
     constructor
     ·cases hli:listed.getD i false
      ·rfl
      ·have:=hcl i j hli hq
       rw [hun] at this;cases this
     ·rcases Nat.lt_or_ge i j with h|h
      ·have:=(hpair i j l[i] oj h (by simp [hi]) hoj).2.1
       rw [hq] at this;cases this
      ·simpa using h
    obtain ⟨c1,c2⟩:=hsee (fun i=>listed.getD i false) (fun i=>decide (i<j)) x j oj hoj hun (by simp) hbk (fun i hi hd=>⟨hdeps i hd,by
      rcases Nat.lt_trichotomy i j with h|h|h
      ·simpa using h
      ·rw [h,hself j hjl] at hd;cases hd
      ·have:=(hpair j i oj l[i] h hoj (by simp [hi])).2.1
       rw [hd] at this;cases this⟩)
    have next: ∀v g2,N.R g1 g2->(∀i,i≠j->N.pre i g1->N.pre i g2)->(vi L j).p v g2->wpAny P .any l.toArray Q fuel (listed.setIfInBounds j true) ((cX (fun i=>listed.getD i false) x l 0 a).put oj.dst v) (N.wd g2):=by
     intro v g2 hb hpp hv;have hi:=iT (s:=fun i=>listed.getD i false) (x:=x) (v:=v) l 0 j a hA hoj (by simpa using hun);rw [Nat.zero_add] at hi;rw [<-hi, <- show (fun i=>(listed.setIfInBounds j true).getD i false)=bR (fun i=>listed.getD i false) j from funext hgd]
     refine ih _ _ g2 hsj (N.trans' _ _ _ hE hb) (fun i hi'=> ?_) (fun j' i hj' hd=> ?_) (fun j' hj'=> ?_) ?_
     ·rw [hgd] at hi'
      by_cases hij:i=j
      ·subst hij;simpa [gG] using hv
      ·simp only [bR,if_neg hij] at hi';simp only [gG,if_neg hij];exact (vi L i).st _ _ _ hb (hF i hi')
     ·rw [hgd] at hj' ⊢
      by_cases hij:i=j
      ·simp [bR,hij]
      ·simp only [bR,if_neg hij]
       by_cases hj2:j'=j
       ·subst hj2;exact hdeps i hd
       ·simp only [bR,if_neg hj2] at hj';exact hcl j' i hj' hd
     ·rw [hgd] at hj'
      by_cases hj2:j'=j
      ·simp [bR,hj2] at hj'
      ·simp only [bR,if_neg hj2] at hj';exact hpp j' hj2 (hpre j' hj')
     ·rw [jx (s':=bR (fun i=>listed.getD i false) j) l.length (fun i _=>hgd i)]
      have:=nY (s:=fun i=>listed.getD i false) (i:=j) l.length hjl hun
      omega
    unfold qC at hst;rw [<-c1, <- c2] at hst
    rcases hst with ⟨h1,h2⟩|⟨h1,h2⟩
    ·rw [if_pos h1];refine .inl ?_;unfold Oper.wp;generalize (execOp (cX (fun i=>listed.getD i false) x l 0 a).eval oj).run P (N.wd g1)=r at h2
     cases r with
     | halt _ _=>exact h2.elim
     | ok n w'=>
      cases n<;>first|exact h2.elim|skip
      case value u=>obtain ⟨g2,rfl,k1,k3,k2⟩:=h2;exact next _ _ k1 k3 k2
      case skip=>obtain ⟨g2,rfl,k1,k3,k2⟩:=h2;exact next _ _ k1 k3 k2
      case enter f args=>
       refine Calls.mono h2 fun e w'' he=> ?_;obtain ⟨v,g2,rfl,rfl,k1,k3,k2⟩:=he
       exact next _ _ k1 k3 k2
    ·rw [if_neg (by rw [h1];decide)];obtain ⟨g2,e2,k1,k3,k2⟩:=h2;rw [<-e2]
     exact next _ _ k1 k3 k2
 have hrep: ∀i,(Array.replicate l.toArray.size false).getD i false=false:=fun i=>by
  simp only [VV,Array.getElem?_replicate];split<;>rfl
 have h0:=main l.toArray.size (Array.replicate l.toArray.size false) (fun _=>undef) g0 (by simp) (N.Sb _)
  (fun i hi=>by rw [hrep] at hi;cases hi) (fun j i hj=>by rw [hrep] at hj;cases hj) (fun j _=>hp0 j) (wx _)
 have e:cX (fun i=>(Array.replicate l.toArray.size false).getD i false) (fun _=>undef) l 0 a=a:=by
  have: ∀(l':List Oper) k,cX (fun i=>(Array.replicate l.toArray.size false).getD i false) (fun _=>undef) l' k a=a:=by
   intro l'
   induction l' with
   | nil=>intro k;rfl
   | cons o l' ih=>intro k;rw [cX,hrep];exact ih (k+1)
  exact this l 0
 rw [e,hg0] at h0;exact h0
end
end
end Go.Proofs.YtlhhccmopfamhaaGreatDoor
