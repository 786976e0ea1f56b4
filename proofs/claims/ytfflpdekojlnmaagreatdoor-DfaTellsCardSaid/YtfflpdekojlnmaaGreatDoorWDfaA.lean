/- texts of one claim, one behind the other. -/
import Derived.Test.YtfflpdekojlnmaaGreatDoorWOpenX
import Derived.Test.YtfflpdekojlnmaaGreatDoorWRef02
import Derived.Test.YtfflpdekojlnmaaGreatDoorWAbsV
import Derived.Test.YtfflpdekojlnmaaGreatDoorWLang
import Derived.Shelf.Sort.Plain
import Derived.Shelf.Slices.CompactI
import Derived.Shelf.Slices.In.SortNone
import Derived.Shelf.Spec.SlicesGrow
import Derived.Test.YtfflpdekojlnmaaGreatDoorRows
import Derived.LaidMore
import Derived.OpenShut
import Derived.Lib.ItoaNum
import Derived.Shelf.SlIter.Sorted
import Derived.Shelf.SortM.Plain
import Derived.Shelf.SortM.SortNone
set_option linter.unusedSimpArgs false
set_option linter.unusedVariables false
set_option maxRecDepth 100000
set_option maxHeartbeats 16000000
open List renaming length_append -> UC, foldl_cons -> V7, foldl_nil -> V8, replicate_succ -> Wc, replicate_zero -> Wd, getElem_mem -> VU, mem_flatMap -> We, getElem?_eq_some_iff -> Uy, getElem?_eq_getElem -> UM, eq_nil_of_length_eq_zero -> U9, flatMap_cons -> Wf, mem_cons -> VR, drop_eq_getElem_cons -> VB, mem_cons_self -> Vy, mem_cons_of_mem -> Vv, all_eq_true -> VH, mem_append_left -> Wn, pairwise_iff_getElem -> Wo, length_map -> Vp, getElem_map -> Wp, mem_range -> VI, mem_singleton -> Wq, mem_append -> Wr, foldl_append -> Ws, nil_append -> Wt, append_assoc -> U0, findIdx?_eq_none_iff -> VQ, findIdx?_eq_some_iff_getElem -> VP, map_append -> Wv, nodup_append -> Ww, length_singleton -> Wx, getD_eq_getElem?_getD -> Vq, getElem?_append_left -> Uz, getElem?_append_right -> U2, map_cons -> Wy, getElem?_map -> UP, map_map -> WB, pairwise_map -> WC, getElem?_cons_zero -> VC
open BitVec renaming eq_of_toNat_eq -> Wh, lt_of_getLsbD -> Wi, eq_of_getLsbD_eq -> Wj, getLsbD_and -> Wl, getLsbD_neg -> Wm
open Bool renaming eq_false_or_eq_true -> Wg, and_eq_true -> Vj, and_self -> WA
open Option.some renaming inj -> Us, injEq -> UI
open List.cons renaming injEq -> Wu
open Nat renaming le_refl -> Ut, lt_or_ge -> UA
open Option renaming getD_some -> Wz
namespace Go.Proofs.YtfflpdekojlnmaaGreatDoor
open Go.RowKit
section
theorem tk (s:ByteArray):(s.toList==(⟨#[]⟩:ByteArray).toList)=nk s:=by
 rw [Bool.eq_iff_iff,toList_inj];unfold nk;rw [decide_eq_true_iff]
 constructor
 ·rintro rfl;rfl
 ·intro h;obtain ⟨⟨l⟩⟩:=s
  cases l with
  | nil=>rfl
  | cons x l=>simp [ByteArray.size] at h
@[go_sem] theorem Q1 (n:Nat) (l:List (ByteArray×Int)):bw n (Qk l)=true:=bB _ (fun _=>rfl) l
def Up:Option (List ByteArray)->AV
 | none=> .cI [.v (.map none), .v (.bool false)]
 | some _=> .cI [.vec 1 0, .v (.bool true)]
section
variable {P:Program}
theorem c7.OF {f:FuncId} {args:List AV} {r r':AV} {o':List (Option aa)} (h:c7 P f args [] r o') (n:Nat) {p:Prop} (hz:gC o' n r=some (p,r')) (hp:p) (hw:aV 0 args=true) (hw':r'.wf 0=true):ar P f args r':=by
 refine ⟨⟨hw,hw'⟩,h.1,fun D nu w vargs hro hra=>(h.2 D nu w vargs hro hra).mono ?_⟩;rintro e w' ⟨v,nu',o'',r'',rfl,hm,hro',hx,rfl,rfl⟩;exact ⟨v,nu',[],r',rfl,⟨hm.os,hm.tape,hm.output,hm.size,fun id len hh=>by obtain ⟨ob,h1,_⟩:=hh;simp at h1,fun b hb hno=>⟨(hm.keep b hb (bd _ _)).1,bd _ _⟩⟩,(.nil _ _ _ hro'.up (hro'.gl.nil (fun _ _ h=>h))),(ky hro' n).1 _ _ _ _ hz hp hx,rfl,rfl⟩
end
def aI (l:List Nat):List (List AV):=l.map (fun k:Nat=>[.v (.int .i64 (k:Int))])
attribute [go_sem] Value.oneCell'
def IC (i:Nat):AV:= .v (.int .i64 ((8000024+i:Nat):Int))
def dI (i:Nat):List AV:=[IC i, .v (.string ⟨#[]⟩), .v (.slice none 0 0)]
def mn (f:Nat->List AV):Nat->List (List AV)
 | 0=>[]
 | n+1=>mn f n++[f n]
@[go_sem] theorem mo (f:Nat->List AV): ∀n,(mn f n).length=n
 | 0=>rfl
 | n+1=>by rw [mn,UC,mo f n];rfl
def marksOf (f:Nat->List AV):List (List AV):=mn f 12
mutual
def cL:Ex->List AV
 | .mk k s l=>[.v (.int .i64 k), .v (.string s), .aC 3 (xC l++marksOf dI) l.length]
def xC:List Ex->List (List AV)
 | []=>[]
 | x :: xs=>cL x :: xC xs
end
theorem qh: ∀l:List Ex,xC l=l.map cL
 | []=>rfl
 | x :: xs=>by rw [xC,qh xs,List.map_cons]
theorem jv (x:Ex):cL x=[.v (.int .i64 x.kind), .v (.string x.label), .aC 3 (x.kids.map cL++marksOf dI) x.kids.length]:=by
 obtain ⟨k,s,l⟩:=x;rw [cL,qh];rfl
theorem ly (n:Nat) (a b:List (List AV)):bw n (a++b)=(bw n a&&bw n b):=by
 induction a with
 | nil=>simp [bw]
 | cons x a ih=>simp [bw,ih,Bool.and_assoc]
theorem dX (n:Nat) (f:Nat->List AV) (h: ∀i,aV n (f i)=true): ∀k,bw n (mn f k)=true
 | 0=>rfl
 | k+1=>by simp [mn,ly,dX n f h k,bw,h]
theorem AB (n:Nat) (f:Nat->List AV) (h: ∀i,aV n (f i)=true):bw n (marksOf f)=true:=dX n f h 12
@[go_sem] theorem OZ (f:Nat->List AV):(marksOf f).length=12:=mo f 12
theorem uk (n:Nat) (i:Nat):aV n (dI i)=true:=rfl
theorem nf (n:Nat) (x:Ex):aV n (cL x)=true:=by
 induction x using Ex.ind with
 | h k s l ih=>
  rw [cL,qh];simp only [aV,AV.wf,Bool.and_true,Bool.true_and,ly,AB n _ (uk n)];exact yb (fun r hr=>by obtain ⟨x,hx,rfl⟩:=List.mem_map.1 hr;exact ih x hx)
theorem uj (n:Nat) (l:List Ex):bw n (l.map cL)=true:=bB _ (nf n) l
attribute [go_sem] nf uj ly
@[go_sem] theorem RN (n k:Nat):bw n (mn dI k)=true:=dX n _ (uk n) k
@[go_sem] theorem we (n:Nat):bw n (marksOf dI)=true:=AB n _ (uk n)
theorem NX (i:Nat) (hi:i<1000):ar Tryz.prog 106 [.v (.int .i64 1), .v (.int .i64 i)] (IC i):=by
 unfold IC;refine gE Tryz.func106 Tryz.ntmps106 Tryz.results106 ?_;refine bq ?_;rw [cF (n:=(1:Int)+7) (by decide) (by decide)];rw [cF (n:=(1000003:Int) * (1+7)) (by decide) (by decide)];rw [cF (by omega) (by omega)]
 congr 2
theorem te (i:Nat) (hi:i<1000):ar Tryz.prog 72 [.v (.int .i64 1), .v (.int .i64 i)] (.agg (dI i)):=by
 have M:=NX i hi;simp only [IC] at M;simp only [dI,IC];refine gE Tryz.func72 Tryz.ntmps72 Tryz.results72 ?_
 (refine bq ?_;intro K hK K hK)
 refine ab.one M ?_
 (revert K;revert K;refine bq ?_)
 (refine jm.of 40 rfl ?_;simp only [go_sem])
theorem uL {α β:Type} (f:α->β) (l:List α) (k:Nat) (h:k<l.length):(l.take (k+1)).map f=(l.take k).map f++[f l[k]]:=by
 rw [List.take_add_one,List.map_append];simp [h]
theorem xD (l:List Ex) (hl:l.length<=1000000) (H: ∀x,x∈l->ar Tryz.prog 17 [.agg (aN x)] (.agg (cL x))) :
  ar Tryz.prog 44 [.aC 3 (l.map aN) l.length] (.aC 3 (l.map cL++marksOf dI) l.length):=by
 have e1:IntKind.i64.wrap ((l.length:Int)+12)=((l.length+12:Nat):Int):=by rw [cF (by omega) (by omega)];omega
 refine gE Tryz.func44 Tryz.ntmps44 Tryz.results44 ?_
 repeat (first|(with_reducible first|refine aA.up ?_|refine fun (K:AK) hK=> ?_|(refine hK _ ?_;clear hK K))|simp only [go_sem,e1]|with_reducible refine wA ?_|clear hK K)
 refine cq (ι:=Nat) (fun k=>[(0, .aC 3 (l.map aN) l.length),(2, .v (.slice none 0 0)),(3, .vec 0 k),(4, .v (.int .i64 k))]) (fun k=>[some ⟨25,3,true,(l.take k).map cL⟩]) (fun k=>l.length - k) (fun k=>k<=l.length) 0 (by omega) ?_ ?_
 ·refine bo ?_ aj
  rfl
 ·intro k hk K hK;simp only [gq,V7,V8,Wc,Wd,go_sem]
  (revert K;revert K;refine aw ?_;intro K hK K hK K hK)
  refine bH.part (fun h=> ?_) (fun h=> ?_)
  ·have hlt:k<l.length:=by replace h:=bI h;omega
   have eG:=getD_map aN l k [] hlt;have eW:=ak (k:=k) (by omega);have HX:=H l[k] (VU hlt);have eT:(l.take (k+1)).map cL=(l.take k).map cL++[cL l[k]]:=uL cL l k hlt;simp only [aD,jv] at HX eG eT
   repeat (first|(with_reducible first|refine aA.up ?_|refine fun (K:AK) hK=> ?_|(refine hK _ ?_;clear hK K))|simp only [go_sem,eG,eW,aD]|with_reducible refine wA ?_|clear hK K)
   refine ab.one HX ?_
   have eL:(l.take k).length=k:=by rw [List.length_take];omega
   repeat (first|(with_reducible first|refine aA.up ?_|refine fun (K:AK) hK=> ?_|(refine hK _ ?_;clear hK K))|simp only [go_sem,eW,eL]|with_reducible refine wA ?_|clear hK K)
   exact az.mk (k+1) (by omega) (by omega) (by refine o5 ?_ aj;exact eT.symm)
  ·have hkl:k=l.length:=by replace h:=bI h;omega
   have eA:List.map cL (List.take k l)=l.map cL:=by rw [hkl,List.take_length]
   ((iterate 3 revert K);refine aM eA ?_;intro K hK)
   refine cq (ι:=Nat) (fun i=>[(0, .aC 3 (l.map aN) l.length),(2, .v (.slice none 0 0)),(3, .vec 0 (l.length+i)),(6, .v (.int .i64 i))]) (fun i=>[some ⟨25,3,true,l.map cL++mn dI i⟩]) (fun i=>12 - i) (fun i=>i<=12) 0 (by omega) ?_ ?_
   ·refine iI ?_ ?_ aj
    ·exact ⟨hkl,rfl⟩
    ·simp [mn]
   ·intro i hi K hK;simp only [gq,V7,V8,Wc,Wd,go_sem]
    (revert K;revert K;refine aw ?_;intro K hK K hK K hK)
    refine bH.part (fun h2=> ?_) (fun h2=> ?_)
    ·have hlt:i<12:=by replace h2:=bI h2;omega
     have eW:=ak (k:=i) (by omega);have M:=te i (by omega);simp only [dI,IC] at M
     ((iterate 3 revert K);refine aM eW ?_;iterate 4 intro K hK)
     refine ab.one M ?_
     repeat (first|(with_reducible first|refine aA.up ?_|refine fun (K:AK) hK=> ?_|(refine hK _ ?_;clear hK K))|simp only [go_sem,eW]|with_reducible refine wA ?_|clear hK K)
     exact az.mk (i+1) (by omega) (by omega) (by refine iI ?_ ?_ aj<;>rfl)
    ·have h12:i=12:=by replace h2:=bI h2;omega
     have eM:mn dI i=marksOf dI:=by rw [h12];rfl
     repeat (first|(with_reducible first|refine aA.up ?_|refine fun (K:AK) hK=> ?_|(refine hK _ ?_;clear hK K))|simp only [go_sem,eM]|with_reducible refine wA ?_|clear hK K)
     exact jm.aC (by simp only [ly,uj,we,Bool.and_self])
def Ex.lens (n:Nat) (x:Ex):Prop:= ∀y,y∈ah x->y.kids.length<=n
theorem BT (x:Ex) (hx:x.lens 1000000):ar Tryz.prog 17 [.agg (aN x)] (.agg (cL x)):=by
 induction x using Ex.ind with
 | h k s l ih=>
  have hk: ∀y,y∈l->y.lens 1000000:=fun y hy z hz=>hx z (by rw [ah,bf];exact List.mem_cons_of_mem _ (We.2 ⟨y,hy,hz⟩));have C:=xD l (hx (.mk k s l) (by rw [ah];exact List.mem_cons_self)) (fun y hy=>ih y hy (hk y hy));rw [aD,jv];simp only [Ex.kind,Ex.label,Ex.kids];refine gE Tryz.func17 Tryz.ntmps17 Tryz.results17 ?_
  (refine aw ?_;intro K hK K hK)
  refine ab.one C ?_
  (revert K;revert K;refine aw ?_)
  (refine jm.of 40 rfl ?_;simp only [go_sem])
def MT (i:Nat):List AV:=[.v (.string ⟨#[]⟩), .v (.string ⟨#[]⟩), .v (.bool false), .v (.string ⟨#[109]⟩), .v (.string ⟨#[]⟩),IC i, .v (.string ⟨#[]⟩), .v (.slice none 0 0)]
def MQ (i:Nat):List AV:=[IC i, .v (.int .i64 0), .v (.string ⟨#[]⟩), .v (.string ⟨#[]⟩), .v (.int .i64 0), .v (.int .i64 0), .v (.string ⟨#[]⟩), .v (.int .i64 0), .v (.string ⟨#[]⟩), .v (.string ⟨#[]⟩), .v (.int .i64 0), .v (.int .i64 0), .v (.string ⟨#[]⟩)]
def MS (i:Nat):List AV:=[.v (.int .i64 0), .v (.string ⟨#[]⟩), .v (.string ⟨#[]⟩), .v (.int .i64 0),IC i, .v (.string ⟨#[]⟩)]
def Is (p:ny):List AV:=[.v (.string p.gq), .v (.string p.to), .v (.bool p.path), .v (.string p.label), .v (.string p.name), .v (.int .i64 p.expr.kind), .v (.string p.expr.label), .aC 3 (p.expr.kids.map cL++marksOf dI) p.expr.kids.length]
theorem F8 (n:Nat) (p:ny):aV n (Is p)=true:=by simp only [Is,aV,AV.wf,ly,uj,we,Bool.and_true,Bool.and_self]
@[go_sem] theorem Q0 (n:Nat) (l:List ny):bw n (l.map Is)=true:=bB _ (F8 n) l
@[go_sem] theorem RT (n k:Nat):bw n (mn MT k)=true:=dX n _ (fun _=>rfl) k
@[go_sem] theorem Pn (n:Nat):bw n (marksOf MT)=true:=dX n _ (fun _=>rfl) 12
@[go_sem] theorem RM (n k:Nat):bw n (mn MQ k)=true:=dX n _ (fun _=>rfl) k
@[go_sem] theorem Pk (n:Nat):bw n (marksOf MQ)=true:=dX n _ (fun _=>rfl) 12
@[go_sem] theorem RQ (n k:Nat):bw n (mn MS k)=true:=dX n _ (fun _=>rfl) k
@[go_sem] theorem Pm (n:Nat):bw n (marksOf MS)=true:=dX n _ (fun _=>rfl) 12
theorem OL {n:Nat} (h:n<=1000000):IntKind.i64.wrap ((n:Int)+12)=((n+12:Nat):Int):=by rw [cF (by omega) (by omega)];omega
def D8.lens (n:Nat) (q:D8):Prop:=q.re.length<=n∧q.conds.length<=n∧q.ret.length<=n∧ ∀p,p∈q.re->p.expr.lens n
inductive Le:AV->AV->Prop
 | refl (a:AV):Le a a
 | j9 (p:(Nat->Prop)->World->Value->Prop) (a b:AV):Le a b->Le (.j9 p a) b
 | nil (z:Nat):Le (.v (.slice none 0 0)) (.aC z [] 0)
 | agg (cs ds:List AV):cs.length=ds.length->(∀(i:Nat) c d,cs[i]? = some c->ds[i]? = some d->Le c d)->Le (.agg cs) (.agg ds)
 | aC (z:Nat) (rows rows':List (List AV)) (len:Nat):len<=rows'.length->rows'.length<=rows.length->(∀(i:Nat) r r',rows[i]? = some r->rows'[i]? = some r'->r.length=r'.length) ->
   (∀(i j:Nat) r r' c c',rows[i]? = some r->rows'[i]? = some r'->r[j]? = some c->r'[j]? = some c'->Le c c')->Le (.aC z rows len) (.aC z rows' len)
section
variable {D:Nat->Prop} {nu:Nat->Nat->Value} {o:List (Option aa)} {w:World} {P:Program}
theorem RA.le {a b:AV} (h:Le a b): ∀ {x:Value},RA D nu o w a x->RA D nu o w b x:=by
 induction h with
 | refl a=>exact fun h=>h
 | j9 p a b _ ih=>intro x h;cases h with|j9 _ _ _ S h0 h1 hc h2 h3=>exact ih h3
 | nil z=>intro x h;obtain rfl:=h.cU;exact .bp z
 | agg cs ds hl _ ih=>
  intro x h
  cases h with
  | agg _ xs h1 h2 h3=>
   refine .agg ds xs (by omega) (fun i d y hd hy=> ?_) h3
   have hi:i<cs.length:=by have:=(Uy.1 hd).1;omega
   exact ih i cs[i] d (UM hi) hd (h2 i _ y (UM hi) hy)
 | aC z rows rows' len h1 h2 h3 _ ih=>
  intro x h;have up: ∀(i:Nat) r',rows'[i]? = some r'-> ∃r,rows[i]? = some r:=fun i r' hr=>⟨_,UM (by have:=(Uy.1 hr).1;omega)⟩
  have upj: ∀(i j:Nat) r' c',rows'[i]? = some r'->r'[j]? = some c'-> ∃r c,rows[i]? = some r∧r[j]? = some c:=fun i j r' c' hr hc=>by
   obtain ⟨r,hr'⟩:=up i r' hr;exact ⟨r,_,hr',UM (by have:=h3 i r r' hr' hr;have:=(Uy.1 hc).1;omega)⟩
  cases h with
  | bp=>
   have:rows'=[]:=U9 (by simpa using h2)
   subst this;exact .bp z
  | bD _ a=>
   have:rows'=[]:=U9 (by simpa using h2)
   subst this;exact .bD z a
  | aC _ _ _ b off cap f k1 k2 k3 k4 k5 k6 k7 k8=>
   refine .aC z rows' len b off cap f h1 (by omega) k3 (fun hne=>k4 (fun e=>hne (by subst e;exact U9 (by simpa using h2)))) (fun i r' hr=> ?_) (fun i j r' c' hr hc=> ?_) (fun i j r' c' hr hc=> ?_) (fun i j r' c' hr hc=> ?_)
   ·obtain ⟨r,hr'⟩:=up i r' hr;rw [<-h3 i r r' hr' hr];exact k5 i r hr'
   ·obtain ⟨r,c,q1,q2⟩:=upj i j r' c' hr hc;exact k6 i j r c q1 q2
   ·obtain ⟨r,c,q1,q2⟩:=upj i j r' c' hr hc;exact ih i j r r' c c' q1 hr q2 hc (k7 i j r c q1 q2)
   ·obtain ⟨r,c,q1,q2⟩:=upj i j r' c' hr hc;exact k8 i j r c q1 q2
def Cv (cs ds:List AV):Prop:=cs.length=ds.length∧ ∀(i:Nat) c d,cs[i]? = some c->ds[i]? = some d->Le c d
theorem Cv.nil:Cv [] []:=⟨rfl,fun i c d h=>by simp at h⟩
theorem Cv.cons {c d:AV} {cs ds:List AV} (h:Le c d) (k:Cv cs ds):Cv (c :: cs) (d :: ds):=⟨by simp [k.1],fun i x y hx hy=>by
 cases i with
 | zero=>cases hx;cases hy;exact h
 | succ i=>exact k.2 i x y hx hy⟩
theorem Cv.agg {cs ds:List AV} (h:Cv cs ds):Le (.agg cs) (.agg ds):= .agg cs ds h.1 h.2
theorem Le.rows {α:Type} {z:Nat} {f g:α->List AV} {xs:List α} {more:List (List AV)} (h: ∀x,x∈xs->Cv (f x) (g x)):Le (.aC z (xs.map f++more) xs.length) (.aC z (xs.map g) xs.length):=by
 have key: ∀(i:Nat) r r',(xs.map f++more)[i]? = some r->(xs.map g)[i]? = some r'->Cv r r':=fun i r r' h1 h2=>by
  have hi:i<xs.length:=by simpa using (Uy.1 h2).1
  rw [List.getElem?_append_left (by simpa using hi)] at h1;rw [List.getElem?_map,UM hi] at h1 h2;cases h1;cases h2;exact h _ (VU hi)
 exact .aC z _ _ _ (by simp) (by simp) (fun i r r' h1 h2=>(key i r r' h1 h2).1) (fun i j r r' c c' h1 h2 h3 h4=>(key i r r' h1 h2).2 j c c' h3 h4)
theorem fM.le {cs ds:List AV} {xs:Array Value} (h:Cv cs ds) (k:fM D nu o w cs xs):fM D nu o w ds xs:=⟨by rw [<-h.1];exact k.len,fun i d x hd hx=>by
 have hi:i<cs.length:=by have:=(Uy.1 hd).1;have:=h.1;omega
 exact (k.at' i cs[i] x (UM hi) hx).le (h.2 i _ d (UM hi) hd)⟩
theorem ar.le {f:FuncId} {args args':List AV} {r:AV} (h:ar P f args r) (hw:aV 0 args'=true) (hl:Cv args' args):ar P f args' r:=h.args hw (fun _ _ _ _ k=>k.le hl)
end
theorem zu (x:Ex):Cv (cL x) (aN x):=by
 induction x using Ex.ind with
 | h k s l ih=>
  rw [jv,aD];exact .cons (.refl _) (.cons (.refl _) (.cons (.rows ih) .nil))
theorem zw (i:Nat):Cv (dI i) (aN (.mk ((8000024+i:Nat):Int) ⟨#[]⟩ [])):=by
 rw [aD];exact .cons (.refl _) (.cons (.refl _) (.cons (.nil 3) .nil))
section
variable {P:Program}
end
def Rk:Go.Shelf.Ren:=⟨fun|189=>111|125=>87|257=>136|128=>125|129=>126|294=>151|295=>152|296=>153|297=>154|298=>155|299=>156|216=>157|300=>158|301=>159|328=>169|329=>141|330=>142|331=>170|332=>171|215=>172|343=>177|n=>n,fun|28=>79|3=>3|46=>121|0=>0|51=>95|53=>178|4=>4|183=>170|182=>169|131=>57|5=>5|9=>9|218=>186|222=>190|228=>204|229=>205|n=>n,fun n=>n⟩
def Rb:Go.Shelf.Ren:=⟨fun|20=>112|n=>n,fun|22=>79|3=>3|4=>4|0=>0|n=>n,fun n=>n⟩
theorem Ja {D:Nat->Prop} {nu:Nat->Nat->Value} {o:List (Option aa)} {w:World} {x:Value} (h:RA D nu o w (.aC 1 [] 0) x): ∃a c,x = .slice a 0 c:=by
 cases h with
 | bp=>exact ⟨_,_,rfl⟩
 | bD _ a=>exact ⟨_,_,rfl⟩
 | aC _ _ _ b off cap f=>exact ⟨_,_,rfl⟩
theorem gp (b:Nat) (l:List Nat):bw b (aI l)=true:=bB _ (fun _=>rfl) _
attribute [go_sem] gp
theorem zg: ∀(l:List Nat) (n i:Nat),l[i]? = some n->l.idxOf n<=i
 | [],n,i,h=>by simp at h
 | x :: l,n,0,h=>by simp at h;subst h;simp
 | x :: l,n,i+1,h=>by
  have:=zg l n i (by simpa using h)
  rw [List.idxOf_cons];cases x==n<;>simp only [cond_true,cond_false]<;>omega
def Rf:Go.Shelf.Ren:=⟨fun|4=>110|n=>n,fun|22=>91|25=>3|3=>3|4=>4|9=>9|20=>20|0=>0|n=>n,fun n=>n⟩
def TN (w:List ByteArray) (x:Ex):Prop:= ∀fr:List Nat,fr.Pairwise (· < ·)->(∀j,j∈fr->j<=w.length)->ar Tryz.prog 52 [.agg [ba w], .agg (aN x), .aC 1 (aI fr) fr.length] (.aC 1 (aI (bh w (Lg x) fr)) (bh w (Lg x) fr).length)
inductive AQ:Ex->Prop
 | lab (s:ByteArray):AQ (.mk 1 s [])
 | many (k:Int) (s:ByteArray) (l:List Ex):(k=2∨k=3)->l.length<=900->(∀x∈l,AQ x)->AQ (.mk k s l)
 | one (k:Int) (s:ByteArray) (x:Ex):(k=4∨k=5∨k=6)->AQ x->AQ (.mk k s [x])
theorem sw {α β:Type} (f:α->List β) (l:List α) (k:Nat) (h:k<l.length):((l.take (k+1)).flatMap f).length=((l.take k).flatMap f).length+(f l[k]).length:=by
 rw [List.take_add_one,List.flatMap_append,UC,UM h];simp only [Option.toList_some,Wf,List.flatMap_nil,List.append_nil]
theorem xm {α β:Type} (f:α->List β) (l:List α) (k:Nat):((l.take k).flatMap f).length<=(l.flatMap f).length:=by
 conv=>rhs;rw [<-List.take_append_drop k l,List.flatMap_append,UC]
 omega
theorem me {α β:Type} (f:α->List β): ∀(l:List α) (x:α),x∈l->(f x).length<=(l.flatMap f).length
 | y :: l,x,h=>by
  rw [Wf,UC]
  rcases VR.1 h with rfl|h
  ·omega
  ·have:=me f l x h;omega
theorem fV (k:Int) (s:ByteArray) (l:List Ex):(ah (.mk k s l)).length=1+(l.flatMap ah).length:=by
 rw [ah,bf,List.length_cons];omega
theorem yY (x:Ex):1<=(ah x).length:=by
 obtain ⟨k,s,l⟩:=x;rw [fV];omega
theorem su (l:List Ex):l.length<=(l.flatMap ah).length:=by
 induction l with
 | nil=>simp
 | cons x l ih=>rw [Wf,UC,List.length_cons];have:=yY x;omega
theorem Jv (x:Ex) (hx:(ah x).length<=1000000):ar Tryz.prog 66 [.agg (aN x)] (.v (.int .i64 ((ah x).length:Nat))):=by
 induction x using Ex.ind with
 | h kd s l ih=>
  rw [fV] at hx ⊢;have hl:=su l;rw [aD];simp only [Ex.kind,Ex.label,Ex.kids];refine gE Tryz.func66 Tryz.ntmps66 Tryz.results66 ?_
  (refine aw ?_;intro K hK)
  refine cq (ι:=Nat) (fun k=>[(1, .ptr 0 0 3 0 0),(2, .v (.int .i64 0)),(3, .v (.int .i64 (1+((l.take k).flatMap ah).length:Nat))),(4, .v (.int .i64 k))]) (fun _=>[some ⟨25,3,false,[[.v (.int .i64 kd), .v (.string s), .aC 3 (l.map aN) l.length]]⟩]) (fun k=>l.length - k) (fun k=>k<=l.length) 0 (by omega) ?_ ?_
  ·refine bo ?_ aj;exact ⟨rfl,rfl⟩
  ·intro k hk K hK;simp only [gq,V7,V8,Wc,Wd,go_sem]
   (revert K;revert K;refine aw ?_;intro K hK K hK K hK)
   refine bH.part (fun h=> ?_) (fun h=> ?_)
   ·have hlt:k<l.length:=by replace h:=bI h;omega
    have eW:=ak (k:=k) (by omega);have eG:=getD_map aN l k [] hlt;have h1:=sw ah l k hlt;have h2:=xm ah l (k+1);have h3:=me ah l l[k] (VU hlt);have C:=ih l[k] (VU hlt) (by omega)
    have eN:IntKind.i64.wrap (((1+((l.take k).flatMap ah).length:Nat):Int)+(((ah l[k]).length:Nat):Int))=((1+((l.take (k+1)).flatMap ah).length:Nat):Int):=by
     rw [cF (by omega) (by omega)];omega
    simp only [aD] at C eG
    repeat (first|(with_reducible first|refine aA.up ?_|refine fun (K:AK) hK=> ?_|(refine hK _ ?_;clear hK K))|simp only [go_sem,eG]|with_reducible refine wA ?_|clear hK K)
    refine ab.one C ?_
    ((iterate 4 revert K);refine qL eW eN ?_)
    exact az.mk (k+1) (by omega) (by omega) (by exact aR aj)
   ·have he:k=l.length:=by replace h:=bI h;omega
    have eA:l.take k=l:=by rw [he,List.take_length]
    ((iterate 3 revert K);exact Dl eA)
theorem fJ (x:Ex): ∀y,y∈ah x->(ah y).length<=(ah x).length:=by
 induction x using Ex.ind with
 | h k s l ih=>
  intro y hy;rw [ah,bf] at hy
  rcases VR.1 hy with rfl|hy
  ·exact Nat.le_refl _
  ·obtain ⟨z,hz,hy⟩:=We.1 hy;have h1:=ih z hz y hy;have h2:=me ah l z hz;rw [fV];omega
theorem jP (x:Ex):x.kids.length<=(ah x).length:=by
 obtain ⟨k,s,l⟩:=x;rw [fV]
 have:=su l
 simp only [Ex.kids];omega
theorem KY {x:Ex} {n:Nat} (h:(ah x).length<=n):x.lens n:=fun y hy=>by
 have h1:=fJ x y hy;have h2:=jP y;omega
theorem LQ (x:Ex):x.ok-> ∀y,y∈ah x->zM y.label:=by
 induction x using Ex.ind with
 | h k s l ih=>
  intro h y hy;rw [Ex.ok] at h;rw [ah,bf] at hy
  rcases VR.1 hy with rfl|hy
  ·exact h.1
  ·obtain ⟨z,hz,hy⟩:=We.1 hy;exact ih z hz (mM.1 h.2 z hz) y hy
end
section
theorem va (x:Ex) (h:x.ok):ar Tryz.prog 27 [.agg (aN x)] (.v (.bool (ay x))):=
 .xN (by kernel_rfl) (by simp only [aV,AV.wf,dA,Bool.and_self]) (fun D nu w vargs hh=>by
  obtain ⟨a,rfl,ha⟩:=jR hh;obtain ⟨ca,rfl,ka⟩:=xP ha
  exact um x ca w (xV x ca ka) h)
def zh (p:Ex->Bool):List Ex->Nat->Int
 | [],_=> -1
 | x :: xs,i=>if p x then (i:Int) else zh p xs (i+1)
theorem zi (p:Ex->Bool): ∀(l:List Ex) (i:Nat),decide (0<=zh p l i)=l.any p
 | [],i=>rfl
 | x :: xs,i=>by
  rw [zh,List.any_cons]
  cases p x with
  | true=>simp
  | false=>simpa using zi p xs (i+1)
theorem xu {g:FuncId} (p:Ex->Bool) (l:List Ex) (hl:l.length<=1000000) (H: ∀x,x∈l->ar Tryz.prog g [.agg (aN x)] (.v (.bool (p x)))) :
  ar Tryz.prog 137 [.aC 3 (l.map aN) l.length, .fn g [] []] (.v (.int .i64 (zh p l 0))):=by
 refine gE Tryz.func137 Tryz.ntmps137 Tryz.results137 ?_
 (refine aw ?_;intro K hK)
 refine bz (ι:=Nat) 8 (fun i=>[(5, .undef),(8, .v (.int .i64 i))]) (fun i=>l.length - i) (fun i=>i<=l.length∧zh p l 0=zh p (l.drop i) i) 0 ⟨Nat.zero_le _,rfl⟩ ?_ ?_
 ·refine bo ?_ aj
  rfl
 rintro i ⟨hi,hx⟩ K hK
 (revert K;revert K;refine aw ?_;intro K hK K hK K hK)
 refine bH.part (fun h=> ?_) (fun h=> ?_)
 ·have hlt:i<l.length:=by replace h:=bI h;omega
  have eW:=ak (k:=i) (by omega);have eG:=getD_map aN l i [] hlt;have HX:=H l[i] (List.getElem_mem hlt);rw [VB hlt,zh] at hx;simp only [aD] at HX eG
  repeat (first|(with_reducible first|refine aA.up ?_|refine fun (K:AK) hK=> ?_|(refine hK _ ?_;clear hK K))|simp only [go_sem,eG,aD]|with_reducible refine wA ?_|clear hK K)
  refine ab.one HX ?_
  rcases Wg (p l[i]) with hp|hp
  ·rw [hp,if_pos rfl] at hx
   ((iterate 5 revert K);refine aM hp ?_)
   rw [hx]
  ·rw [hp,if_neg (by decide)] at hx
   ((iterate 5 revert K);refine qL hp eW ?_)
   exact az.mk (i+1) ⟨by omega,hx⟩ (by omega) (by exact aR aj)
 ·have:i=l.length:=by replace h:=bI h;omega
  rw [this,List.drop_length,zh] at hx
  ((iterate 3 revert K);refine aw ?_)
  rw [hx]
theorem lD {g:FuncId} (p:Ex->Bool) (l:List Ex) (hl:l.length<=1000000) (H: ∀x,x∈l->ar Tryz.prog g [.agg (aN x)] (.v (.bool (p x)))) :
  ar Tryz.prog 113 [.aC 3 (l.map aN) l.length, .fn g [] []] (.v (.bool (l.any p))):=by
 have C:=xu p l hl H;refine gE Tryz.func113 Tryz.ntmps113 Tryz.results113 ?_
 (refine bq ?_;intro K hK K hK)
 refine ab.one C ?_
 (revert K;revert K;refine bq ?_)
 rw [zi]
theorem BW (x:Ex) (H:ar Tryz.prog 82 [.agg (aN x)] (.v (.bool (aG x)))):ar Tryz.prog 114 [.agg (aN x)] (.v (.bool (!aG x))):=by
 simp only [aD] at H ⊢;refine gE Tryz.func114 Tryz.ntmps114 Tryz.results114 ?_
 (refine bq ?_;intro K hK K hK)
 refine ab.one H ?_
 (revert K;revert K;exact vn)
theorem KS (x:Ex) (hx:x.lens 1000000):ar Tryz.prog 82 [.agg (aN x)] (.v (.bool (aG x))):=by
 induction x using Ex.ind with
 | h k s l ih=>
  have hl:l.length<=1000000:=hx (.mk k s l) (by rw [ah];exact Vy);have H:=fun x (h:x∈l)=>ih x h (fun y hy=>hx y (by rw [ah,bf];exact Vv _ (We.2 ⟨x,h,hy⟩)));have C1:=lD aG l hl H;have C2:=lD (fun x=> !aG x) l hl (fun x h=>BW x (H x h))
  have e1:l.all aG = !l.any (fun x=> !aG x):=by simp [List.all_eq_not_any_not]
  simp only [aD,Ex.kind,Ex.label,Ex.kids,aG,nQ,kV]
  by_cases h4:k=4
  ·subst h4;refine gE Tryz.func82 Tryz.ntmps82 Tryz.results82 ?_;exact vj
  ·by_cases h6:k=6
   ·subst h6;refine gE Tryz.func82 Tryz.ntmps82 Tryz.results82 ?_;exact vj
   ·by_cases h3:k=3
    ·subst h3;refine gE Tryz.func82 Tryz.ntmps82 Tryz.results82 ?_
     (refine aw ?_;intro K hK K hK K hK)
     refine ab.one C1 ?_
     ((iterate 3 revert K);exact vj)
    ·by_cases h2:k=2
     ·subst h2;refine gE Tryz.func82 Tryz.ntmps82 Tryz.results82 ?_
      (refine aw ?_;intro K hK K hK K hK)
      refine ab.one C2 ?_
      ((iterate 3 revert K);refine aw ?_)
      rw [e1]
     ·by_cases h5:k=5
      ·subst h5;refine gE Tryz.func82 Tryz.ntmps82 Tryz.results82 ?_
       (refine aw ?_;intro K hK K hK K hK)
       refine ab.one C2 ?_
       ((iterate 3 revert K);refine aw ?_)
       rw [e1]
      ·have f4:(k==4)=false:=beq_false_of_ne h4;have f6:(k==6)=false:=beq_false_of_ne h6;have f3:(k==3)=false:=beq_false_of_ne h3;have f2:(k==2)=false:=beq_false_of_ne h2;have f5:(k==5)=false:=beq_false_of_ne h5;simp only [if_neg h4,if_neg h6,if_neg h3,if_neg h2,if_neg h5];refine gE Tryz.func82 Tryz.ntmps82 Tryz.results82 ?_;exact P5 f4 f6 f3 f2 f5
def dk (x:Ex):Bool:=ay x&&aG x
theorem B8 {x:Ex} (h:ay x=true):x.lens 1000000:=fun y hy=>by
 simp only [ay,Vj,decide_eq_true_eq] at h;have h1:=fJ x y hy;have h2:=jP y;omega
theorem Cs (x:Ex) (h:x.ok):ar Tryz.prog 53 [.agg (aN x)] (.v (.bool (dk x))):=by
 have R:=va x h
 rcases Wg (ay x) with hr|hr
 ·have E:=KS x (B8 hr);rw [hr] at R;rw [show dk x=aG x by rw [dk,hr];rfl];simp only [aD] at R E ⊢;refine gE Tryz.func53 Tryz.ntmps53 Tryz.results53 ?_
  (refine bq ?_;intro K hK K hK)
  refine ab.one R ?_
  (revert K;revert K;refine bq ?_;intro K hK K hK)
  refine ab.one E ?_
  (revert K;revert K;exact vn)
 ·rw [hr] at R;rw [show dk x=false by rw [dk,hr];rfl];simp only [aD] at R ⊢;refine gE Tryz.func53 Tryz.ntmps53 Tryz.results53 ?_
  (refine bq ?_;intro K hK K hK)
  refine ab.one R ?_
  (revert K;revert K;exact Qb)
theorem FG (x:Ex) (h:(ah x).all Ex.part=true) (hn:(ah x).length<=900):Fit x∧AQ x:=by
 induction x using Ex.ind with
 | h k s l ih=>
  have hp:bg k s l.length=true:=VH.1 h (.mk k s l) (by rw [ah];exact Vy)
  have hm: ∀x,x∈l->x∈ah (.mk k s l):=fun x hx=>by
   rw [ah,bf];exact Vv _ (We.2 ⟨x,hx,by obtain ⟨k',s',l'⟩:=x;rw [ah];exact Vy⟩)
  have H:=fun x (hx:x∈l)=>ih x hx (VH.2 fun y hy=>VH.1 h y (by rw [ah,bf];exact Vv _ (We.2 ⟨x,hx,hy⟩))) (by
   have h1:=fJ (.mk k s l) x (hm x hx)
   omega)
  have hl:l.length<=900:=by have:=jP (.mk k s l);simp only [Ex.kids] at this;omega
  unfold bg at hp
  by_cases h1:k=1
  ·subst h1;simp only [BEq.rfl,if_true,Vj,decide_eq_true_eq] at hp;have hl0:l=[]:=List.eq_nil_of_length_eq_zero hp.1;subst hl0;exact ⟨.lab s, .lab s⟩
  ·rw [if_neg (by simpa using h1)] at hp
   by_cases h2:k=2∨k=3
   ·rw [if_pos (by simpa using h2)] at hp;simp only [Vj,decide_eq_true_eq] at hp;exact ⟨.many k s l h2 hp.1 (fun x hx=>(H x hx).1), .many k s l h2 hl (fun x hx=>(H x hx).2)⟩
   ·rw [if_neg (by simpa using h2)] at hp
    by_cases h3:k=4∨k=5∨k=6
    ·rw [if_pos (by simpa [or_assoc] using h3)] at hp;simp only [Vj,decide_eq_true_eq] at hp
     obtain ⟨x,rfl⟩: ∃x,l=[x]:=by
      match l,hp.1 with
      | [x],_=>exact ⟨x,rfl⟩
     exact ⟨.one k s x h3 (H x (by simp)).1, .one k s x h3 (H x (by simp)).2⟩
    ·rw [if_neg (by simpa [or_assoc] using h3)] at hp;cases hp
theorem dC {x:Ex} (h:ay x=true):Fit x∧AQ x:=by
 simp only [ay,Vj,decide_eq_true_eq] at h;exact FG x h.2 (by omega)
noncomputable def jN (x:Ex) (w:List ByteArray):Bool:=ay x && @decide (Lg x w) (Classical.propDecidable _)
theorem ig {x:Ex} {w:List ByteArray}:jN x w=true↔ay x=true∧Lg x w:=by simp [jN]
theorem mH (n:Int):IntKind.u32.wrap n=n % 4294967296:=by simp [IntKind.wrap,IntKind.signed,IntKind.bits]
theorem Ci (m:BitVec 32):IntKind.u32.wrap (m.toNat:Int)=m.toNat:=by
 rw [mH];have:=m.isLt;omega
theorem ji (m:BitVec 32):BitVec.ofInt 32 (m.toNat:Int)=m:=by
 simp
theorem Dt (m:BitVec 32):IntKind.u32.wrap ((m.toNat:Int) - 1)=(m - 1#32).toNat:=by
 rw [mH,BitVec.toNat_sub];have:=m.isLt;simp;omega
theorem Lv (m:BitVec 32):IntKind.u32.wrap (0 - (m.toNat:Int))=(-m).toNat:=by
 rw [mH,BitVec.toNat_neg];have:=m.isLt;omega
theorem Lu (m:BitVec 32):IntKind.u32.wrap ((m.toNat:Int) * 125613361)=(m * 125613361#32).toNat:=by
 rw [mH,BitVec.toNat_mul];simp
theorem Lz (m:BitVec 32):(m.toNat:Int).fdiv (2 ^ min 27 32)=(m >>> 27).toNat:=by
 show (m.toNat:Int).fdiv (2 ^ 27)=_;rw [BitVec.toNat_ushiftRight,Nat.shiftRight_eq_div_pow];simp [Int.fdiv_eq_ediv_of_nonneg]
theorem Ly (p:Nat):IntKind.u32.wrap (1 * 2 ^ p)=(1#32 <<< p).toNat:=by
 rw [mH,BitVec.toNat_shiftLeft,Nat.shiftLeft_eq];simp
theorem Lx (m:BitVec 32):decide ((0:Int)<(m.toNat:Int))=(m !=0#32):=by
 by_cases h:m=0#32
 ·subst h;simp
 ·have e:m.toNat≠0:=fun e=>h (Wh (by simpa using e));rw [bne_iff_ne.2 h];exact decide_eq_true (by omega)
theorem ID (m:BitVec 32):((m.toNat:Int)==0)=(m==0#32):=by
 by_cases h:m=0#32
 ·subst h;simp
 ·have e:m.toNat≠0:=fun e=>h (Wh (by simpa using e));rw [beq_eq_false_iff_ne.2 h];exact beq_eq_false_iff_ne.2 (by omega)
theorem xH (m n:BitVec 32):H5 .u32 m.toNat n.toNat=(m &&& n).toNat:=by
 rw [H5];show IntKind.u32.wrap ((BitVec.ofInt 32 _ &&& BitVec.ofInt 32 _).toNat:Int)=_;rw [ji,ji,Ci]
theorem ld (m n:BitVec 32):Rg .u32 m.toNat n.toNat=(m ||| n).toNat:=by
 rw [Rg];show IntKind.u32.wrap ((BitVec.ofInt 32 _ ||| BitVec.ofInt 32 _).toNat:Int)=_;rw [ji,ji,Ci]
theorem Lw (m n:BitVec 32):rp .u32 m.toNat n.toNat=(m &&& ~~~ n).toNat:=by
 rw [rp];show IntKind.u32.wrap ((BitVec.ofInt 32 _ &&& ~~~ BitVec.ofInt 32 _).toNat:Int)=_;rw [ji,ji,Ci]
def aq (m:BitVec 32):List Nat:=(List.range 32).filter m.getLsbD
theorem aW {m:BitVec 32} {p:Nat}:p∈aq m↔m.getLsbD p=true:=by
 simp only [aq,List.mem_filter,List.mem_range];exact ⟨fun h=>h.2,fun h=>⟨Wi h,h⟩⟩
theorem jr (m:BitVec 32):(aq m).Pairwise (· < ·):=List.pairwise_lt_range.filter _
theorem EB (m:BitVec 32):(aq m).length<=32:=by
 have:=List.length_filter_le m.getLsbD (List.range 32)
 simpa [aq] using this
theorem kS:aq 0#32=[]:=by simp [aq]
theorem pX {m:BitVec 32} (h:aq m=[]):m=0#32:=by
 refine Wj fun i hi=> ?_
 cases hb:m.getLsbD i with
 | false=>simp
 | true=>have:=aW.2 hb;rw [h] at this;cases this
theorem o8 {m:BitVec 32} {p:Nat} {r:List Nat} (h:aq m=p :: r):m.getLsbD p=true∧p<32∧(∀j,j<p->m.getLsbD j=false)∧ ∀j,j∈r↔(m.getLsbD j=true∧p<j):=by
 have hm:m.getLsbD p=true:=aW.1 (by rw [h];simp);have hr:=jr m;rw [h,List.pairwise_cons] at hr
 refine ⟨hm,Wi hm,fun j hj=> ?_,fun j=>⟨fun hj=>⟨aW.1 (by rw [h];exact Vv _ hj),hr.1 j hj⟩,fun hj=> ?_⟩⟩
 ·cases hb:m.getLsbD j with
  | false=>rfl
  | true=>
   have:=aW.2 hb
   rw [h,VR] at this
   rcases this with rfl|hh
   ·omega
   ·have:=hr.1 j hh;omega
 ·have:=aW.2 hj.1
  rw [h,VR] at this
  rcases this with rfl|hh
  ·omega
  ·exact hh
theorem Lp {m:BitVec 32} {p:Nat} {r:List Nat} (h:aq m=p :: r):m &&& -m=1#32 <<< p:=by
 obtain ⟨h1,h2,h3,h4⟩:=o8 h;refine Wj fun i hi=> ?_;rw [Wl,Wm,BitVec.getLsbD_shiftLeft,BitVec.getLsbD_one]
 rcases Nat.lt_trichotomy i p with q|q|q
 ·simp [h3 i q,q]
 ·subst q
  have: ¬ ∃j,j<i∧m.getLsbD j=true:=fun ⟨j,a,b⟩=>by rw [h3 j a] at b;cases b
  rw [h1,decide_eq_false this];simp [hi]
 ·have: ∃j,j<i∧m.getLsbD j=true:=⟨p,q,h1⟩
  have e:i - p≠0:=by omega
  simp [this,hi,e]
theorem Iw {m:BitVec 32} {p:Nat} {r:List Nat} (h:aq m=p :: r):aq (m &&& (m - 1#32))=r:=by
 obtain ⟨h1,h2,h3,h4⟩:=o8 h;have hr:=jr m;rw [h,List.pairwise_cons] at hr
 have key: ∀j,(m &&& (m - 1#32)).getLsbD j=true↔j∈r:=fun j=>by
  rw [h4, <- BitVec.not_neg,Wl,BitVec.getLsbD_not,Wm]
  rcases Nat.lt_or_ge p j with q|q
  ·have: ∃k,k<j∧m.getLsbD k=true:=⟨p,q,h1⟩
   by_cases hj:m.getLsbD j=true
   ·have:=Wi hj
    simp_all
   ·simp_all
  ·by_cases hj:m.getLsbD j=true
   ·have e:j=p:=by
     rcases Nat.lt_or_ge j p with a|a
     ·rw [h3 j a] at hj;cases hj
     ·omega
    subst e
    have: ¬ ∃k,k<j∧m.getLsbD k=true:=fun ⟨k,a,b⟩=>by rw [h3 k a] at b;cases b
    rw [h1,decide_eq_false this];simp [h2]
   ·simp_all
 exact pq (jr _) hr.2 (fun j=>aW.trans (key j))
def aK (m:BitVec 32):AV:= .v (.int .u32 m.toNat)
def An:List Int:=[0,1,28,2,29,14,24,3,30,22,20,15,25,17,4,8,31,27,13,23,21,19,16,7,26,12,18,6,11,5,10,9]
theorem Oz: ∀p:Nat,p<32->An[((1#32 <<< p * 125613361#32) >>> 27).toNat]? = some (p:Int):=by decide
theorem Nz (s:AS):s.ev (.global 0) = .vp (An.map fun i=> .v (.int .u8 i)):=rfl
theorem KP {l:List Int} {f:Int->AV} {n:Nat} {x:Int} (e:l[n]? = some x): ∃r,(l.map f).drop n=f x :: r:=by
 obtain ⟨h1,h2⟩:=Uy.1 e;exact ⟨_,by rw [VB (by simpa using h1),List.getElem_map,h2]⟩
theorem JH {p:Nat} (hp:p<32): ∃n r,((1#32 <<< p * 125613361#32) >>> 27).toNat=n∧n<32∧(An.map fun i=>AV.v (.int .u8 i)).drop n = .v (.int .u8 p) :: r:=by
 have e:=Oz p hp;generalize ((1#32 <<< p * 125613361#32) >>> 27).toNat=n at *;obtain ⟨r,h⟩:=KP (f:=fun i=>AV.v (.int .u8 i)) e;exact ⟨n,r,rfl,(Uy.1 e).1,h⟩
theorem OH {m:BitVec 32} {p:Nat} {r:List Nat} (h:aq m=p :: r): ∃(M N1 N2 N3:Int) (n:Nat) (r':List AV),(m.toNat:Int)=M∧(M==0)=false∧IntKind.u32.wrap (0 - M)=N1∧H5 .u32 M N1=N2∧IntKind.u32.wrap (N2 * 125613361)=N3 ∧
  N3.fdiv (2 ^ min 27 32)=n∧n<32∧(An.map fun i=>AV.v (.int .u8 i)).drop (n * 1) = .v (.int .u8 p) :: r':=by
 have hp:=(o8 h).2.1
 have hm:m≠0#32:=fun e=>by rw [e,kS] at h;cases h
 obtain ⟨n,r',eN,hn,eI⟩:=JH hp;refine ⟨_,_,_,_,n,r',rfl,by rw [ID];exact beq_eq_false_iff_ne.2 hm,rfl,rfl,rfl, ?_,hn,by rw [Nat.mul_one];exact eI⟩;rw [Lv,xH,Lp h,Lu,Lz,eN]
theorem SS {m:BitVec 32} {p:Nat} {r:List Nat} (h:aq m=p :: r):ar Tryz.prog 139 [aK m] (.v (.int .i64 p)):=by
 have hp:=(o8 h).2.1;obtain ⟨M,N1,N2,N3,n,r',e0,z1,e1,e2,e3,e4,hn,eI⟩:=OH h;simp only [aK,e0];refine gE Tryz.func139 Tryz.ntmps139 Tryz.results139 ?_
 repeat (first|(with_reducible first|refine aA.up ?_|refine fun (K:AK) hK=> ?_|(refine hK _ ?_;clear hK K))|simp only [go_sem,z1,e1,e2,e3,e4,Nz,eI]|with_reducible refine wA ?_|clear hK K)
 have eW:IntKind.i64.wrap (p:Int)=p:=cF (by omega) (by omega);exact Dl eW
def nL (m:BitVec 32):aa:=⟨96,1,false,[[aK m]]⟩
theorem EH (p:Nat) (l:List Nat):aI (p :: l)=[.v (.int .i64 p)] :: aI l:=rfl
theorem Ku (m:BitVec 32):rM Tryz.prog 138 [.ptr 0 0 1 0 0] [some (nL m)] (aI (aq m)):=by
 simp only [nL,aK]
 (refine rM.enter Tryz.func138 rfl (by kernel_rfl) (by kernel_rfl) rfl (fun l=> ?_);simp only [Tryz.ntmps138,Tryz.results138,List.length_cons,List.length_nil,Nat.reduceAdd,Nat.reduceSub,List.replicate_succ,List.replicate_zero,List.cons_append,List.nil_append])
 refine bq ?_
 refine u0 (ι:=BitVec 32) 3 (fun i=>[]) (fun i=>[some (nL i)]) (fun i=> .run l (aI (aq i))) (fun i=>(aq i).length) (fun _=>True) m trivial ?_ ?_
 ·simp only [nL,aK];exact aR aj
 ·rintro i hi K hK;simp only [nL,aK]
  repeat (first|(with_reducible first|refine aA.up ?_|refine fun (K:AK) hK=> ?_|(refine hK _ ?_;clear hK K))|simp only [go_sem,Lx]|clear hK K)
  refine bH.part (fun h=> ?_) (fun h=> ?_)
  ·cases hb:aq i with
   | nil=>rw [pX hb] at h;simp at h
   | cons p r=>
    have C:=SS hb;have eY:=EH p r;have hR:=Iw hb;simp only [aK] at C
    (revert K;revert K;refine bq ?_;iterate 4 intro K hK)
    refine ab.one C ?_
    repeat' (first|(with_reducible first|refine aA.up ?_|refine fun (K:AK) hK=> ?_|(refine hK _ ?_;clear hK K))|simp only [go_sem,eY,Dt,xH]|clear hK K|(with_reducible refine ab.one (by assumption) ?_)|(with_reducible refine bj.one (by assumption) ?_)|(refine bH.part (fun hb=> ?_) (fun hb=> ?_)<;>simp only [hb,go_sem,eY,Dt,xH])|(refine bH.part (fun hb=> ?_) (fun hb=> ?_))|(with_reducible refine nt.mk ?_ ?_))
    ·refine az.mk (i &&& (i - 1#32)) trivial ?_ ?_
     ·rw [hR,hb];simp
     ·rw [hR];simp only [nL,aK];exact aR aj
    ·exact .inr trivial
  ·have e1:i=0#32:=by simpa using h
   subst e1;simp only [kS,aI,List.map_nil]
   (revert K;revert K;refine bq ?_)
   exact .inl trivial
theorem pC (m:BitVec 32):c7 Tryz.prog 115 [aK m] [] (.fn 138 [] [.ptr 0 0 1 0 0]) [some (nL m)]:=by
 simp only [nL,aK];refine gF Tryz.func115 Tryz.ntmps115 Tryz.results115 ?_;refine aw ?_
 (refine ⟨?_, ?_, ?_⟩<;>simp only [di,j7,AV.v.injEq,Value.int.injEq,Value.bool.injEq,Value.string.injEq,AV.vec.injEq,AV.ptr.injEq,true_or,or_true,false_or,or_false,aa.mk.injEq,forall_eq_apply_imp_iff,forall_eq,forall_eq',go_sem])
open Go.ChangeShapes Go.WideShapes Go.ChangeAt Go.RowKit
theorem Iy {P:Program} {w:World} {n:String} {d:DataW Unit}: ∀(laid:List (String×DataW Unit)) (ps:List MemPlace),DataW.LaidVars P w laid ps->(n,d)∈laid ->
  ∃g t cs fuel p,P.globalNamed n=some g∧(P.globals[g]?).map (·.type)=some t∧w.var? P n=some cs∧DataW.trod (fun _=>()) P w 0 (fun _=>true) false fuel t cs.toList=some (d,p)∧ ∀m∈MemPlace.row ⟨g,0,none⟩ cs.size,m∈ps
 | [],ps,h,hm=>by cases hm
 | (n',d') :: r,ps,h,hm=>by
  obtain ⟨g,t,cs,fuel,p,q,h1,h2,h3,h4,h5,rfl⟩:=h
  rcases VR.1 hm with e|hm
  ·cases e;exact ⟨g,t,cs,fuel,p,h1,h2,h3,h4,fun m hm=>Wn _ (Wn _ hm)⟩
  ·obtain ⟨g',t',cs',fuel',p',k1,k2,k3,k4,k5⟩:=Iy r q h5 hm;exact ⟨g',t',cs',fuel',p',k1,k2,k3,k4,fun m hm=>List.mem_append_right _ (k5 m hm)⟩
theorem Ao {P:Program} {w:World} {n:String} {laid:List (String×DataW Unit)} {d:DataW Unit} {g:Nat} {T E:TypeId} {k:IntKind} {N:Nat} (vals:List Int) (hm:(n,d)∈laid) (hd:d = .agg (vals.map fun i=> .lit (.int k i))) (hG:P.globalNamed n=some g) (hT:(P.globals[g]?).map (·.type)=some T) (uT:P.underlying T=some (.array N E)) (uE:P.underlying E=some (.int k))
  (cE:P.cellsOf E=1) (cT:P.cellsOf T=N) (hN:0<N) (hv:vals.length=N) (h:laidMet P laid w): ∃t,w.heap[g]? = some (.cells (vals.map (fun i=>Value.int k i)).toArray t (0,0)):=by
 obtain ⟨ps,hl,hnd,hc⟩:=h;obtain ⟨g0,t0,cs0,f0,p0,hg0,ht0,hv0,hd0,hps⟩:=Iy _ _ hl hm;obtain rfl:=Us (hG.symm.trans hg0);obtain rfl:=Us (hT.symm.trans ht0);rw [hd] at hd0;obtain ⟨xs,m,rfl,hx,hlen,hn,hel⟩:=DataW.trod_array uT hd0
 have hxs:xs.map (·.1)=vals.map fun i=>(DataW.lit (.int k i):DataW Unit):=by
  simp only [Prod.mk.injEq,DataW.agg.injEq] at hx;exact hx.1.symm
 rw [cT] at hlen;rw [cE] at hel
 have hcs:cs0.toList=vals.map (fun i=>Value.int k i):=by
  refine List.ext_getElem (by rw [hlen,List.length_map,hv]) fun i h1 h2=> ?_
  have hi:i<N:=by omega
  have e1:=hel i hi;rw [Nat.mul_one,VB h1,List.take_succ_cons,List.take_zero] at e1
  have hix:i<xs.length:=by omega
  rw [UM hix] at e1;obtain ⟨n,k1,k2,_⟩:=DataW.trod_int uE e1
  have e2:(xs.map (·.1))[i]? = (vals.map fun i=>(DataW.lit (.int k i):DataW Unit))[i]? :=by rw [hxs]
  have hit:i<vals.length:=by omega
  rw [List.getElem?_map,List.getElem?_map,UM hix,UM hit,k2] at e2;simp only [Option.map_some,UI,DataW.lit.injEq,Lit.int.injEq,true_and] at e2;rw [List.getElem_map, <- e2];exact (List.cons.inj k1).1
 obtain ⟨⟨c,t,hb⟩,_⟩:=hc g 0 (hps _ (by
  rw [MemPlace.row,List.mem_map];refine ⟨0, ?_,rfl⟩
  rw [List.mem_range, <- Array.length_toList,hlen];exact hN))
 simp only [World.var?,hG,Option.bind_some,hb,UI] at hv0;refine ⟨t, ?_⟩;rw [hb,hv0, <- hcs,Array.toArray_toList]
def QR:List Int:=[1,10,100,1000,10000,100000,1000000,10000000,100000000,1000000000,10000000000,100000000000,1000000000000,10000000000000,100000000000000,1000000000000000,10000000000000000,100000000000000000,1000000000000000000,10000000000000000000]
theorem EW {w:World} (h:laidMetH Tryz.prog [("math/bits.deBruijn32tab", Rows.laid_math_bits_deBruijn32tab),("math/bits.deBruijn64tab", Rows.laid_math_bits_deBruijn64tab),("internal/strconv.uint64pow10", Rows.laid_internal_strconv_uint64pow10)] w):ec (fun _=>True) (fun _ _=>Go.undef) [] w:=by
 rw [MakeChecks.laidMetH_plain _ _ _ (by kernel_rfl)] at h
 have h1:=Ao (P:=Tryz.prog) (g:=0) (T:=203) (E:=5) (k:= .u8) (N:=32) (n:= "math/bits.deBruijn32tab") An (Vy) rfl (by kernel_rfl) (by kernel_rfl) (by kernel_rfl) (by kernel_rfl) (by kernel_rfl) (by kernel_rfl) (by decide) rfl h
 have h2:=Ao (P:=Tryz.prog) (g:=1) (T:=217) (E:=178) (k:= .u64) (N:=20) (n:= "internal/strconv.uint64pow10") QR (Vv _ (Vv _ Vy)) rfl (by kernel_rfl) (by kernel_rfl) (by kernel_rfl) (by kernel_rfl) (by kernel_rfl) (by kernel_rfl) (by decide) rfl h
 intro g T cs hg;unfold vo at hg;refine ⟨?_,tx _ _,trivial⟩
 split at hg
 ·rename_i e;obtain ⟨-, rfl⟩:=Prod.mk.inj (Us hg);subst e;exact h1
 ·split at hg
  ·rename_i e;obtain ⟨-, rfl⟩:=Prod.mk.inj (Us hg);subst e;exact h2
  ·cases hg
end
section
theorem iJ {s t:ByteArray}:cw s t=true↔s=t:=toList_inj
theorem fg {α:Type} {p:List α->Prop} (h0:p []) (h1: ∀l a,p l->p (l++[a])) (l:List α):p l:=by
 rw [<-List.reverse_reverse l]
 induction l.reverse with
 | nil=>exact h0
 | cons a l ih=>rw [List.reverse_cons];exact h1 _ _ ih
theorem H8 (n m:Nat) (f:Nat->Nat) (h1: ∀a,a<n->f a<m) (h2: ∀a b,a<n->b<n->f a=f b->a=b):n<=m:=by
 have hn:((List.range n).map f).Nodup:=by
  rw [List.Nodup,Wo];intro i j hi hj hij;simp only [Vp,List.length_range] at hi hj;simp only [Wp,List.getElem_range];intro e;have:=h2 i j hi hj e;omega
 have hs:((List.range n).map f) ⊆ List.range m:=fun x hx=>by
  obtain ⟨a,ha,rfl⟩:=List.mem_map.1 hx;exact VI.2 (h1 a (VI.1 ha))
 have:=hn.length_le_of_subset hs
 simpa using this
theorem yP (u:Nat): ∀c∈Lib.decDigits u,48<=c.toNat∧c.toNat<=57:=by
 induction u using Nat.strongRecOn with
 | _ u ih=>
  intro c hc;rw [Lib.decDigits] at hc
  split at hc
  ·simp only [Wq] at hc;subst hc;simp;omega
  ·rw [Wr] at hc
   rcases hc with hc|hc
   ·exact ih (u / 10) (by omega) c hc
   ·simp only [Wq] at hc;subst hc;simp;omega
theorem sc (u:Nat) (h:u<1000):(Lib.decDigits u).length<=3:=by
 rw [Lib.decDigits];split
 ·simp
 ·rw [Lib.decDigits];split
  ·simp
  ·rw [Lib.decDigits,dif_pos (by omega)];simp
def DM (l:List UInt8):Nat:=l.foldl (fun a c=>a * 10+(c.toNat - 48)) 0
theorem uh (u:Nat):DM (Lib.decDigits u)=u:=by
 induction u using Nat.strongRecOn with
 | _ u ih=>
  rw [Lib.decDigits];split
  ·rename_i h;simp [DM];omega
  ·rename_i h
   have:=ih (u / 10) (by omega)
   rw [DM,Ws, <- DM,this];simp;omega
theorem G9 {u v:Nat} (h:Lib.decDigits u=Lib.decDigits v):u=v:=by rw [<-uh u, <- uh v,h]
theorem oW {u v:Nat} {r s:List UInt8} (h:Lib.decDigits u++r=Lib.decDigits v++s) (hr:r=[]∨r.head? = some 32) (hs:s=[]∨s.head? = some 32):u=v∧r=s:=by
 have key: ∀(a b r s:List UInt8),a++r=b++s->(∀c∈a,48<=c.toNat∧c.toNat<=57)->(∀c∈b,48<=c.toNat∧c.toNat<=57)->(r=[]∨r.head? = some 32)->(s=[]∨s.head? = some 32)->a=b∧r=s:=by
  intro a
  induction a with
  | nil=>
   intro b r s h ha hb hr hs
   cases b with
   | nil=>exact ⟨rfl,h⟩
   | cons c b=>
    have:=hb c List.mem_cons_self
    rw [Wt] at h;subst h
    rcases hr with hr|hr
    ·simp at hr
    ·simp at hr;subst hr;simp at this
  | cons d a ih=>
   intro b r s h ha hb hr hs
   cases b with
   | nil=>
    have:=ha d List.mem_cons_self
    rw [Wt] at h;subst h
    rcases hs with hs|hs
    ·simp at hs
    ·simp at hs;subst hs;simp at this
   | cons c b=>
    simp only [List.cons_append,Wu] at h;obtain ⟨rfl,h⟩:=h;obtain ⟨h1,h2⟩:=ih b r s h (fun c hc=>ha c (Vv _ hc)) (fun c hc=>hb c (Vv _ hc)) hr hs;exact ⟨by rw [h1],h2⟩
 obtain ⟨h1,h2⟩:=key _ _ _ _ h (yP u) (yP v) hr hs;exact ⟨G9 h1,h2⟩
def kW (l:List Nat):List UInt8:=l.flatMap (fun n=>Lib.decDigits n++[32])
def fZ (l:List Nat):ByteArray:=⟨(kW l).toArray⟩
theorem zm: ∀ {l m:List Nat},kW l=kW m->l=m
 | [],[],_=>rfl
 | [],b :: m,h=>by simp [kW] at h
 | a :: l,[],h=>by simp [kW] at h
 | a :: l,b :: m,h=>by
  simp only [kW,List.flatMap_cons,U0] at h;obtain ⟨h1,h2⟩:=oW h (.inr rfl) (.inr rfl);simp only [List.cons_append,Wt,Wu,true_and] at h2;rw [h1,zm (l:=l) (m:=m) h2]
theorem zl {l m:List Nat} (h:fZ l=fZ m):l=m:=by
 have:(fZ l).data.toList=(fZ m).data.toList:=by rw [h]
 exact zm (by simpa [fZ] using this)
def pos (l:List ByteArray) (s:ByteArray):Option Nat:=l.findIdx? (fun x=>cw s x)
theorem zU {l:List ByteArray} {s:ByteArray}:pos l s=none↔s∉l:=by
 rw [pos,VQ]
 constructor
 ·intro h hm;have:=h s hm;rw [iJ.2 rfl] at this;cases this
 ·intro h x hx
  cases hh:cw s x
  ·rfl
  ·rw [iJ] at hh;subst hh;exact absurd hx h
theorem tG {l:List ByteArray} {s:ByteArray} {k:Nat} (h:pos l s=some k): ∃hk:k<l.length,l[k]=s:=by
 rw [pos,VP] at h;obtain ⟨h1,h2,_⟩:=h;exact ⟨h1,(iJ.1 h2).symm⟩
theorem Oh {l:List ByteArray} {s:ByteArray} {k:Nat} (h:pos l s=some k):k<l.length:=(tG h).1
abbrev aU:=List (ByteArray×Nat)
structure mK where
 all:List (List Nat)
 rows:List aU
 ends:List Bool
section
variable (stp:List Nat->ByteArray->List Nat) (em:Bool) (la:List Nat)
def AI (cur:List Nat) (st:List (List Nat)×aU) (lab:ByteArray):List (List Nat)×aU:=
 if stp cur lab=[] then st else match pos (st.1.map fZ) (fZ (stp cur lab)) with
 | some k=>(st.1,st.2++[(lab,k)])
 | none=>(st.1++[stp cur lab],st.2++[(lab,st.1.length)])
def dr (cur:List Nat) (all:List (List Nat)) (labs:List ByteArray):List (List Nat)×aU:=labs.foldl (AI stp cur) (all,[])
theorem jk (cur:List Nat) (all:List (List Nat)) (labs:List ByteArray) (l:ByteArray):dr stp cur all (labs++[l])=AI stp cur (dr stp cur all labs) l:=by rw [dr,Ws];rfl
def bu (st:mK):List Nat:=st.all.getD st.rows.length []
def pz (st:mK):Bool:=(st.rows.length==0&&em)||(bu st).any (fun p=>la.contains p)
def b6 (labs:List ByteArray) (st:mK):mK:=⟨(dr stp (bu st) st.all labs).1,st.rows++[(dr stp (bu st) st.all labs).2],st.ends++[pz em la st]⟩
def mz (labs:List ByteArray):Nat->mK->Option mK
 | 0,st=>some st
 | f+1,st=>if st.rows.length<st.all.length then (if 256<(b6 stp em la labs st).all.length then none else mz labs f (b6 stp em la labs st)) else some st
def s0:mK:=⟨[[0]],[],[]⟩
def nC (labs:List ByteArray):Option mK:=mz stp em la labs 257 s0
structure A0 (labs:List ByteArray) (st:mK):Prop where
 le:st.rows.length<=st.all.length
 max:st.all.length<=256
 nd:(st.all.map fZ).Nodup
 ends:st.ends.length=st.rows.length
 row: ∀r∈st.rows,(r.map Prod.fst).Sublist labs∧ ∀p∈r,p.2<st.all.length
theorem Ot {cur:List Nat} {a:List (List Nat)×aU} {lab:ByteArray} (hn:(a.1.map fZ).Nodup) (hr: ∀p∈a.2,p.2<a.1.length) :
  ((AI stp cur a lab).1.map fZ).Nodup∧(∀p∈(AI stp cur a lab).2,p.2<(AI stp cur a lab).1.length)∧a.1.length<=(AI stp cur a lab).1.length∧(AI stp cur a lab).1.length<=a.1.length+1 ∧
  ((AI stp cur a lab).2=a.2∨ ∃k,(AI stp cur a lab).2=a.2++[(lab,k)])∧ ∃t,(AI stp cur a lab).1=a.1++t:=by
 unfold AI
 split
 ·exact ⟨hn,hr,Ut _,Nat.le_succ _, .inl rfl,[],by simp⟩
 ·split
  ·rename_i k hk
   have:=Oh hk
   rw [Vp] at this;refine ⟨hn,fun p hp=> ?_,Ut _,Nat.le_succ _, .inr ⟨_,rfl⟩,[],by simp⟩;simp only [Wr,Wq] at hp
   rcases hp with hp|rfl
   ·exact hr p hp
   ·exact this
  ·rename_i hk
   refine ⟨?_,fun p hp=> ?_,by simp,by simp, .inr ⟨_,rfl⟩,_,rfl⟩
   ·rw [Wv,List.map_singleton,Ww];refine ⟨hn,by simp,fun x hx y hy=> ?_⟩;simp only [Wq] at hy;subst hy;rintro rfl;exact zU.1 hk hx
   ·simp only [Wr,Wq,UC,Wx] at hp ⊢
    rcases hp with hp|rfl
    ·have:=hr p hp;omega
    ·simp
theorem rI {cur:List Nat} {all:List (List Nat)} (hn:(all.map fZ).Nodup): ∀(labs:List ByteArray),
  ((dr stp cur all labs).1.map fZ).Nodup∧(∀p∈(dr stp cur all labs).2,p.2<(dr stp cur all labs).1.length)∧all.length<=(dr stp cur all labs).1.length∧(dr stp cur all labs).1.length<=all.length+labs.length ∧
  ((dr stp cur all labs).2.map Prod.fst).Sublist labs∧ ∃t,(dr stp cur all labs).1=all++t:=by
 refine fg ⟨hn,by simp [dr],Ut _,Ut _,by simp [dr],[],by simp [dr]⟩ ?_
 ·rintro labs l ⟨h1,h2,h3,h4,h5,t,h6⟩;obtain ⟨k1,k2,k3,k4,k5,t2,k6⟩:=Ot stp (cur:=cur) (lab:=l) h1 h2;rw [<-jk] at k1 k2 k3 k4 k5 k6;refine ⟨k1,k2,by omega,by simp;omega, ?_,t++t2,by rw [k6,h6,U0]⟩
  rcases k5 with k5|⟨k,k5⟩
  ·rw [k5];exact h5.trans (List.sublist_append_left _ _)
  ·rw [k5,Wv];exact h5.append (by simp)
theorem L4 (labs:List ByteArray):A0 labs s0:=⟨by simp [s0],by simp [s0],by simp [s0],rfl,by simp [s0]⟩
theorem pA {labs:List ByteArray} {st:mK} (h:A0 labs st) (h1:st.rows.length<st.all.length) (h2: ¬ 256<(b6 stp em la labs st).all.length):A0 labs (b6 stp em la labs st):=by
 obtain ⟨k1,k2,k3,k4,k5,t,k6⟩:=rI stp (cur:=bu st) h.nd labs
 refine ⟨?_,by omega,k1, ?_,fun r hr=> ?_⟩
 ·simp only [b6,UC,Wx];omega
 ·simp only [b6,UC,Wx,h.ends]
 ·simp only [b6,Wr,Wq] at hr ⊢
  rcases hr with hr|rfl
  ·obtain ⟨q1,q2⟩:=h.row r hr;exact ⟨q1,fun p hp=>by have:=q2 p hp;omega⟩
  ·exact ⟨k5,k2⟩
theorem DG {labs:List ByteArray}: ∀(f:Nat) {st st':mK},A0 labs st->257<=f+st.rows.length->mz stp em la labs f st=some st'->A0 labs st'∧st'.rows.length=st'.all.length
 | 0,st,st',h,hf,e=>by
  simp only [mz,Option.some.injEq] at e;subst e
  have:=h.le;have:=h.max;omega
 | f+1,st,st',h,hf,e=>by
  rw [mz] at e
  split at e
  ·rename_i h1
   split at e
   ·cases e
   ·rename_i h2;exact DG f (pA stp em la h h1 h2) (by simp only [b6,UC,Wx];omega) e
  ·cases e;exact ⟨h,by have:=h.le;omega⟩
end
section
variable (rows:List aU)
def tB (part:List Nat) (p:Nat) (row:aU):List UInt8:=Lib.decDigits p++row.flatMap (fun e=>32 :: (e.1.data.toList++32 :: Lib.decDigits (part.getD e.2 0)))
def bU (part:List Nat) (p:Nat) (row:aU):ByteArray:=⟨(tB part p row).toArray⟩
theorem FD (part:List Nat) (p:Nat) (row:aU) (e:ByteArray×Nat):tB part p (row++[e])=tB part p row++32 :: (e.1.data.toList++32 :: Lib.decDigits (part.getD e.2 0)):=by simp [tB]
def Qq (part:List Nat) (st:List ByteArray×List Nat) (s:Nat):List ByteArray×List Nat:=
 match pos st.1 (bU part (part.getD s 0) (rows.getD s [])) with
 | some k=>(st.1,st.2++[k])
 | none=>(st.1++[bU part (part.getD s 0) (rows.getD s [])],st.2++[st.1.length])
def dp (part:List Nat) (n:Nat):List ByteArray×List Nat:=(List.range n).foldl (Qq rows part) ([],[])
theorem qk (part:List Nat) (n:Nat):dp rows part (n+1)=Qq rows part (dp rows part n) n:=by rw [dp,List.range_succ,Ws];rfl
def dJ (part:List Nat):List Nat:=(dp rows part rows.length).2
def e9 (part:List Nat):Nat:=(dp rows part rows.length).1.length
def nq:Nat->List Nat->Nat->List Nat
 | 0,part,_=>part
 | f+1,part,many=>if e9 rows part=many then dJ rows part else nq f (dJ rows part) (e9 rows part)
def p0 (ends:List Bool):List Nat:=ends.map (fun b=>if b then 1 else 0)
def bt (ends:List Bool):List Nat:=nq rows (rows.length+2) (p0 ends) 0
structure Py (part:List Nat) (n:Nat):Prop where
 len:(dp rows part n).2.length=n
 nd:(dp rows part n).1.Nodup
 le:(dp rows part n).1.length<=n
 at': ∀s,s<n-> ∃h:(dp rows part n).2.getD s 0<(dp rows part n).1.length,(dp rows part n).1[(dp rows part n).2.getD s 0]=bU part (part.getD s 0) (rows.getD s [])
 on: ∀k,k<(dp rows part n).1.length-> ∃s,s<n∧(dp rows part n).2.getD s 0=k
theorem gj (part:List Nat): ∀n,Py rows part n
 | 0=>⟨rfl,by simp [dp],by simp [dp],fun s h=>by omega,fun k h=>by simp [dp] at h⟩
 | n+1=>by
  have ih:=gj part n;have e:=qk rows part n;unfold Qq at e
  have hg: ∀(l:List Nat) (x s:Nat),l.length=n->s<n->(l++[x]).getD s 0=l.getD s 0:=fun l x s h1 h2=>by
   rw [Vq,Uz (by omega),Vq]
  have hl: ∀(l:List Nat) (x:Nat),l.length=n->(l++[x]).getD n 0=x:=fun l x h1=>by
   rw [Vq,U2 (by omega),h1];simp
  cases hp:pos (dp rows part n).1 (bU part (part.getD n 0) (rows.getD n [])) with
  | some k=>
   rw [hp] at e;simp only at e;obtain ⟨hk,hk2⟩:=tG hp
   refine ⟨by rw [e];simp [ih.len],by rw [e];exact ih.nd,by rw [e];have:=ih.le;simp only;omega,fun s hs=> ?_,fun j hj=> ?_⟩
   ·simp only [e]
    rcases UA s n with q|q
    ·simp only [hg _ _ s ih.len q];exact ih.at' s q
    ·obtain rfl:s=n:=by omega
     simp only [hl _ _ ih.len];exact ⟨hk,hk2⟩
   ·simp only [e] at hj ⊢;obtain ⟨s,q1,q2⟩:=ih.on j hj;exact ⟨s,by omega,by rw [hg _ _ s ih.len q1];exact q2⟩
  | none=>
   rw [hp] at e;simp only at e
   refine ⟨by rw [e];simp [ih.len], ?_,by rw [e];have:=ih.le;simp only [UC,Wx];omega,fun s hs=> ?_,fun j hj=> ?_⟩
   ·rw [e];simp only;rw [Ww];refine ⟨ih.nd,by simp,fun x hx y hy=> ?_⟩;simp only [Wq] at hy;subst hy;rintro rfl;exact zU.1 hp hx
   ·simp only [e]
    rcases UA s n with q|q
    ·obtain ⟨q1,q2⟩:=ih.at' s q;simp only [hg _ _ s ih.len q];exact ⟨by simp only [UC,Wx];omega,by rw [List.getElem_append_left q1];exact q2⟩
    ·obtain rfl:s=n:=by omega
     simp only [hl _ _ ih.len];exact ⟨by simp,by rw [List.getElem_append_right (Ut _)];simp⟩
   ·simp only [e,UC,Wx] at hj ⊢
    rcases UA j (dp rows part n).1.length with q|q
    ·obtain ⟨s,q1,q2⟩:=ih.on j q;exact ⟨s,by omega,by rw [hg _ _ s ih.len q1];exact q2⟩
    ·exact ⟨n,by omega,by rw [hl _ _ ih.len];omega⟩
theorem tC {part:List Nat} {p q:Nat} {r s:aU} (h:bU part p r=bU part q s):p=q:=by
 have e:tB part p r=tB part q s:=by
  have:(bU part p r).data.toList=(bU part q s).data.toList:=by rw [h]
  simpa [bU] using this
 have hh: ∀t:aU,(t.flatMap (fun e=>32 :: (e.1.data.toList++32 :: Lib.decDigits (part.getD e.2 0))))=[]∨(t.flatMap (fun e=>32 :: (e.1.data.toList++32 :: Lib.decDigits (part.getD e.2 0)))).head? = some 32:=fun t=>by
  cases t with
  | nil=>exact .inl rfl
  | cons a t=>exact .inr rfl
 exact (oW e (hh r) (hh s)).1
def OW (part:List Nat) (many:Nat):Prop:=part.length=rows.length∧ ∀k,k<many-> ∃s,s<rows.length∧part.getD s 0=k
theorem mv (part:List Nat):OW rows (dJ rows part) (e9 rows part):=⟨(gj rows part _).len,(gj rows part _).on⟩
theorem mr (part:List Nat):e9 rows part<=rows.length:=(gj rows part _).le
theorem lg {part:List Nat} {many:Nat} (h:OW rows part many):many<=e9 rows part:=by
 have ok:=gj rows part rows.length
 
 have hch: ∀k, ∃m,k<many->m<e9 rows part∧ ∃s,s<rows.length∧part.getD s 0=k∧(dJ rows part).getD s 0=m:=fun k=>by
  by_cases hk:k<many
  ·obtain ⟨s,h1,h2⟩:=h.2 k hk;obtain ⟨q1,_⟩:=ok.at' s h1;exact ⟨_,fun _=>⟨q1,s,h1,h2,rfl⟩⟩
  ·exact ⟨0,fun q=>absurd q hk⟩
 obtain ⟨f,hf⟩:=Classical.axiomOfChoice hch
 have inj: ∀a b,a<many->b<many->f a=f b->a=b:=fun a b ha hb e=>by
  obtain ⟨l1,s,k1,k2,k3⟩:=hf a ha;obtain ⟨l2,t,m1,m2,m3⟩:=hf b hb;obtain ⟨q1,q2⟩:=ok.at' s k1;obtain ⟨r1,r2⟩:=ok.at' t m1;have e1:(dp rows part rows.length).2.getD s 0=(dp rows part rows.length).2.getD t 0:=k3.trans (e.trans m3.symm)
  have:bU part (part.getD s 0) (rows.getD s [])=bU part (part.getD t 0) (rows.getD t []):=by rw [<-q2, <- r2];simp only [e1]
  rw [<-k2, <- m2];exact tC this
 exact H8 many (e9 rows part) f (fun a ha=>(hf a ha).1) inj
end
structure wv where
 order:List Nat
 rows:List aU
 ends:List Bool
section
variable (rows:List aU) (ends:List Bool) (part:List Nat)
def iD (order:List Nat) (x:Nat):Option Nat:=(order.map (fun s=>part.getD s 0)).findIdx? (fun y=>x==y)
theorem vP {order:List Nat} {x:Nat}:iD part order x=none↔x∉order.map (fun s=>part.getD s 0):=by
 rw [iD,VQ]
 constructor
 ·intro h hm;have:=h x hm;simp at this
 ·intro h y hy
  cases hh:x==y
  ·rfl
  ·rw [beq_iff_eq] at hh;subst hh;exact absurd hy h
theorem vQ {order:List Nat} {x k:Nat} (h:iD part order x=some k): ∃hk:k<order.length,part.getD order[k] 0=x:=by
 rw [iD,VP] at h;obtain ⟨h1,h2,_⟩:=h;rw [Vp] at h1;rw [Wp,beq_iff_eq] at h2;exact ⟨h1,h2.symm⟩
def Dz (st:List Nat×aU) (e:ByteArray×Nat):List Nat×aU:=
 match iD part st.1 (part.getD e.2 0) with
 | some n=>(st.1,st.2++[(e.1,n)])
 | none=>(st.1++[e.2],st.2++[(e.1,st.1.length)])
def dH (order:List Nat) (row:aU):List Nat×aU:=row.foldl (Dz part) (order,[])
theorem kG (order:List Nat) (row:aU) (e:ByteArray×Nat):dH part order (row++[e])=Dz part (dH part order row) e:=by rw [dH,Ws];rfl
def dq (st:wv):Nat:=st.order.getD st.rows.length 0
def dQ (st:wv):wv:=⟨(dH part st.order (rows.getD (dq st) [])).1,st.rows++[(dH part st.order (rows.getD (dq st) [])).2],st.ends++[ends.getD (dq st) false]⟩
def lV:Nat->wv->wv
 | 0,st=>st
 | f+1,st=>if st.rows.length<st.order.length then lV f (dQ rows ends part st) else st
def q0:wv:=⟨[0],[],[]⟩
def cp:wv:=lV rows ends part (rows.length+1) q0
structure D7 (st:wv):Prop where
 le:st.rows.length<=st.order.length
 nd:(st.order.map (fun s=>part.getD s 0)).Nodup
 lt: ∀s∈st.order,s<rows.length
 ends:st.ends.length=st.rows.length
 row: ∀k,k<st.rows.length->(st.rows.getD k []).map Prod.fst=(rows.getD (st.order.getD k 0) []).map Prod.fst∧ ∀p∈st.rows.getD k [],p.2<st.order.length
theorem Oi {n:Nat} {a:List Nat×aU} {e:ByteArray×Nat} (he:e.2<n) (hn:(a.1.map (fun s=>part.getD s 0)).Nodup) (hl: ∀s∈a.1,s<n) (hr: ∀p∈a.2,p.2<a.1.length) :
  ((Dz part a e).1.map (fun s=>part.getD s 0)).Nodup∧(∀s∈(Dz part a e).1,s<n)∧(∀p∈(Dz part a e).2,p.2<(Dz part a e).1.length)∧a.1.length<=(Dz part a e).1.length ∧
  (Dz part a e).2.map Prod.fst=a.2.map Prod.fst++[e.1]∧ ∃t,(Dz part a e).1=a.1++t:=by
 unfold Dz
 split
 ·rename_i k hk;obtain ⟨h1,_⟩:=vQ part hk;refine ⟨hn,hl,fun p hp=> ?_,Ut _,by simp,[],by simp⟩;simp only [Wr,Wq] at hp
  rcases hp with hp|rfl
  ·exact hr p hp
  ·exact h1
 ·rename_i hk
  refine ⟨?_,fun s hs=> ?_,fun p hp=> ?_,by simp,by simp,_,rfl⟩
  ·rw [Wv,List.map_singleton,Ww];refine ⟨hn,by simp,fun x hx y hy=> ?_⟩;simp only [Wq] at hy;subst hy;rintro rfl;exact (vP part).1 hk hx
  ·simp only [Wr,Wq] at hs
   rcases hs with hs|rfl
   ·exact hl s hs
   ·exact he
  ·simp only [Wr,Wq,UC,Wx] at hp ⊢
   rcases hp with hp|rfl
   ·have:=hr p hp;omega
   ·simp
theorem rD {n:Nat} {order:List Nat} (hn:(order.map (fun s=>part.getD s 0)).Nodup) (hl: ∀s∈order,s<n): ∀row:aU,(∀p∈row,p.2<n) ->
  ((dH part order row).1.map (fun s=>part.getD s 0)).Nodup∧(∀s∈(dH part order row).1,s<n)∧(∀p∈(dH part order row).2,p.2<(dH part order row).1.length)∧order.length<=(dH part order row).1.length ∧
  (dH part order row).2.map Prod.fst=row.map Prod.fst∧ ∃t,(dH part order row).1=order++t:=by
 refine fg (fun _=>⟨hn,hl,by simp [dH],Ut _,by simp [dH],[],by simp [dH]⟩) ?_;intro row e ih hr;obtain ⟨h1,h2,h3,h4,h5,t,h6⟩:=ih (fun p hp=>hr p (List.mem_append_left _ hp));obtain ⟨k1,k2,k3,k4,k5,t2,k6⟩:=Oi part (hr e (by simp)) h1 h2 h3;rw [<-kG] at k1 k2 k3 k4 k5 k6;exact ⟨k1,k2,k3,by omega,by rw [k5,h5,Wv];rfl,t++t2,by rw [k6,h6,U0]⟩
theorem kF {n:Nat} {order:List Nat} (hn:(order.map (fun s=>part.getD s 0)).Nodup) (hl: ∀s∈order,s<n):order.length<=n:=by
 have h1:order.Nodup:=by
  rw [List.Nodup,Wo] at hn ⊢;intro i j hi hj hij e
  have:=hn i j (by simpa using hi) (by simpa using hj) hij
  simp only [Wp,e] at this;exact this rfl
 have:=h1.length_le_of_subset (l₂:=List.range n) (fun s hs=>VI.2 (hl s hs))
 simpa using this
theorem Dy (h:0<rows.length):D7 rows part q0:=⟨by simp [q0],by simp [q0],by simpa [q0] using h,rfl,fun k hk=>by simp [q0] at hk⟩
theorem fX {α:Type} {l:List α} {a d:α} {i:Nat} (h:i<l.length):(l++[a]).getD i d=l.getD i d:=by
 rw [Vq,Uz h,Vq]
theorem dT {α:Type} {l:List α} {a d:α}:(l++[a]).getD l.length d=a:=by
 rw [Vq,U2 (Ut _)];simp
theorem bW {α:Type} {l t:List α} {d:α} {i:Nat} (h:i<l.length):(l++t).getD i d=l.getD i d:=by
 rw [Vq,Uz h,Vq]
theorem aZ {α:Type} {l:List α} {d:α} {i:Nat} (h:i<l.length):l.getD i d∈l:=by
 rw [Vq,List.getElem?_eq_getElem h];exact List.getElem_mem h
theorem ph {st:wv} (hT: ∀r∈rows, ∀p∈r,p.2<rows.length) (h:D7 rows part st) (h1:st.rows.length<st.order.length):D7 rows part (dQ rows ends part st):=by
 have hc:dq st<rows.length:=h.lt _ (aZ h1);obtain ⟨k1,k2,k3,k4,k5,t,k6⟩:=rD part (n:=rows.length) h.nd h.lt (rows.getD (dq st) []) (hT _ (aZ hc))
 refine ⟨?_,k1,k2, ?_,fun k hk=> ?_⟩
 ·simp only [dQ,UC,Wx];omega
 ·simp only [dQ,UC,Wx,h.ends]
 ·simp only [dQ,UC,Wx] at hk ⊢
  rcases UA k st.rows.length with q|q
  ·obtain ⟨q1,q2⟩:=h.row k q;rw [fX q,k6,bW (by omega)];exact ⟨q1,fun p hp=>by have:=q2 p hp;simp only [UC];omega⟩
  ·obtain rfl:k=st.rows.length:=by omega
   rw [dT];refine ⟨?_,k3⟩;rw [k5,k6,bW h1];rfl
theorem DA (hT: ∀r∈rows, ∀p∈r,p.2<rows.length): ∀(f:Nat) {st:wv},D7 rows part st->rows.length+1<=f+st.rows.length->D7 rows part (lV rows ends part f st)∧(lV rows ends part f st).rows.length=(lV rows ends part f st).order.length
 | 0,st,h,hf=>by
  have:=kF part h.nd h.lt;have:=h.le;omega
 | f+1,st,h,hf=>by
  rw [lV]
  split
  ·rename_i h1;exact DA hT f (ph rows ends part hT h h1) (by simp only [dQ,UC,Wx];omega)
  ·exact ⟨h,by have:=h.le;omega⟩
end
end
section
def look (row:aU) (l:ByteArray):Option Nat:=(row.find? (fun p=>cw l p.1)).map Prod.snd
def uB (rows:List aU) (s:Nat):List ByteArray->Option Nat
 | []=>some s
 | l :: w=>match look (rows.getD s []) l with
  | some t=>uB rows t w
  | none=>none
def c6 (rows:List aU) (ends:List Bool) (s:Nat) (w:List ByteArray):Bool:=match uB rows s w with
 | some t=>ends.getD t false
 | none=>false
theorem gK {row:aU} {l:ByteArray}:look row l=none↔l∉row.map Prod.fst:=by
 rw [look,Option.map_eq_none_iff,List.find?_eq_none]
 constructor
 ·intro h hm;obtain ⟨p,hp,rfl⟩:=List.mem_map.1 hm;exact h p hp (iJ.2 rfl)
 ·intro h p hp he;rw [iJ] at he;subst he;exact h (List.mem_map_of_mem hp)
theorem jw {row:aU} {l:ByteArray} {t:Nat} (h:look row l=some t):(l,t)∈row:=by
 rw [look,Option.map_eq_some_iff] at h;obtain ⟨p,h1,rfl⟩:=h;have h2:=List.find?_some h1;rw [iJ] at h2;subst h2;exact List.mem_of_find?_eq_some h1
theorem ik {row r2:aU} {l:ByteArray}:look (row++r2) l=(look row l).or (look r2 l):=by
 simp only [look,List.find?_append];cases row.find? (fun p=>cw l p.1)<;>rfl
theorem il {m l:ByteArray} {t:Nat}:look [(m,t)] l=if l=m then some t else none:=by
 by_cases h:l=m
 ·subst h;simp [look,iJ.2 rfl]
 ·have:cw l m=false:=by
   cases hh:cw l m
   ·rfl
   ·exact absurd (iJ.1 hh) h
  simp [look,this,h]
theorem ru {row:aU} (hn:(row.map Prod.fst).Nodup) {l:ByteArray} {t:Nat} (h:(l,t)∈row):look row l=some t:=by
 induction row with
 | nil=>simp at h
 | cons a row ih=>
  rw [Wy,List.nodup_cons] at hn
  rcases List.mem_cons.1 h with rfl|h
  ·simp [look,iJ.2 rfl]
  ·have hne:cw l a.1=false:=by
    cases hh:cw l a.1
    ·rfl
    ·rw [iJ] at hh;subst hh;exact absurd (List.mem_map_of_mem h) hn.1
   have:=ih hn.2 h
   simpa [look,hne] using this
section
variable (stp:List Nat->ByteArray->List Nat) (em:Bool) (la:List Nat)
def Gv (labs:List ByteArray) (all:List (List Nat)) (cur:List Nat) (row:aU):Prop:=
 ∀l,(l∈labs->stp cur l≠[]-> ∃k,look row l=some k∧all[k]? = some (stp cur l))∧((l∉labs∨stp cur l=[])->look row l=none)
theorem Gv.mono {labs:List ByteArray} {all t:List (List Nat)} {cur:List Nat} {row:aU} (h:Gv stp labs all cur row):Gv stp labs (all++t) cur row:=fun l=>
 ⟨fun h1 h2=>by
  obtain ⟨k,k1,k2⟩:=(h l).1 h1 h2
  exact ⟨k,k1,by rw [Uz (Uy.1 k2).1];exact k2⟩,(h l).2⟩
theorem Jm (cur:List Nat) {all:List (List Nat)}: ∀labs:List ByteArray,labs.Nodup->Gv stp labs (dr stp cur all labs).1 cur (dr stp cur all labs).2:=by
 refine fg (fun _ l=>⟨fun h=>by simp at h,fun _=>by simp [dr,look]⟩) ?_;intro labs m ih hn l;have hn':=List.nodup_append.1 hn;have ih:=ih hn'.1;have hm:m∉labs:=fun h=>hn'.2.2 m h m (by simp) rfl;rw [jk,AI]
 by_cases he:stp cur m=[]
 ·rw [if_pos he]
  refine ⟨fun h1 h2=> ?_,fun h1=> ?_⟩
  ·rcases List.mem_append.1 h1 with h1|h1
   ·exact (ih l).1 h1 h2
   ·simp only [Wq] at h1;subst h1;exact absurd he h2
  ·by_cases hl:stp cur l=[]
   ·exact (ih l).2 (.inr hl)
   ·rcases h1 with h1|h1
    ·exact (ih l).2 (.inl (fun q=>h1 (List.mem_append_left _ q)))
    ·exact absurd h1 hl
 ·rw [if_neg he]
  have nl:l≠m->(l∈labs++[m]↔l∈labs):=fun h=>by simp [h]
  split
  ·rename_i k hk;obtain ⟨hk1,hk2⟩:=tG hk;rw [Wp] at hk2;have hk3:=zl hk2;rw [Vp] at hk1
   refine ⟨fun h1 h2=> ?_,fun h1=> ?_⟩
   ·rw [ik,il]
    by_cases hlm:l=m
    ·subst hlm;exact ⟨k,by rw [(ih l).2 (.inl hm),if_pos rfl];rfl,by rw [UM hk1,hk3]⟩
    ·obtain ⟨j,j1,j2⟩:=(ih l).1 ((nl hlm).1 h1) h2;exact ⟨j,by rw [j1];rfl,j2⟩
   ·rw [ik,il]
    have hlm:l≠m:=fun e=>by subst e;rcases h1 with h1|h1<;>simp_all
    rw [if_neg hlm,(ih l).2 (h1.imp (fun q r=>q ((nl hlm).2 r)) id)];rfl
  ·refine ⟨fun h1 h2=> ?_,fun h1=> ?_⟩
   ·rw [ik,il]
    by_cases hlm:l=m
    ·subst hlm;exact ⟨_,by rw [(ih l).2 (.inl hm),if_pos rfl];rfl,by rw [List.getElem?_append_right (Nat.le_refl _)];simp⟩
    ·obtain ⟨j,j1,j2⟩:=(ih l).1 ((nl hlm).1 h1) h2;exact ⟨j,by rw [j1];rfl,by rw [Uz (Uy.1 j2).1];exact j2⟩
   ·rw [ik,il]
    have hlm:l≠m:=fun e=>by subst e;rcases h1 with h1|h1<;>simp_all
    rw [if_neg hlm,(ih l).2 (h1.imp (fun q r=>q ((nl hlm).2 r)) id)];rfl
structure SW (labs:List ByteArray) (st:mK):Prop where
 zero:st.all[0]? = some [0]
 row: ∀i,i<st.rows.length->Gv stp labs st.all (st.all.getD i []) (st.rows.getD i [])
 Br: ∀i,i<st.rows.length->st.ends.getD i false=((i==0&&em)||(st.all.getD i []).any (fun p=>la.contains p))
theorem L0 {labs:List ByteArray} (hn:labs.Nodup) {st:mK} (ho:A0 labs st) (h:SW stp em la labs st) (h1:st.rows.length<st.all.length):SW stp em la labs (b6 stp em la labs st):=by
 obtain ⟨_,_,_,_,_,t,k6⟩:=rI stp (cur:=bu st) ho.nd labs;have hr:=Jm stp (bu st) (all:=st.all) labs hn
 have hg: ∀i,i<st.all.length->(b6 stp em la labs st).all.getD i []=st.all.getD i []:=fun i hi=>by simp only [b6,k6];exact bW hi
 refine ⟨?_,fun i hi=> ?_,fun i hi=> ?_⟩
 ·simp only [b6,k6];rw [Uz (by omega)];exact h.zero
 ·have hi':i<st.rows.length+1:=by simpa [b6] using hi
  rw [hg i (by omega)]
  rcases Nat.lt_or_ge i st.rows.length with q|q
  ·simp only [b6,k6,fX q];exact (h.row i q).mono
  ·obtain rfl:i=st.rows.length:=by omega
   simp only [b6,dT];exact hr
 ·have hi':i<st.rows.length+1:=by simpa [b6] using hi
  rw [hg i (by omega)]
  rcases Nat.lt_or_ge i st.rows.length with q|q
  ·simp only [b6];rw [fX (by rw [ho.ends];exact q)];exact h.Br i q
  ·obtain rfl:i=st.rows.length:=by omega
   simp only [b6];rw [<-ho.ends,dT,pz,bu,ho.ends]
theorem Jn {labs:List ByteArray} (hn:labs.Nodup): ∀(f:Nat) {st st':mK},A0 labs st->SW stp em la labs st->mz stp em la labs f st=some st'->SW stp em la labs st'
 | 0,st,st',_,h,e=>by simp only [mz,UI] at e;subst e;exact h
 | f+1,st,st',ho,h,e=>by
  rw [mz] at e
  split at e
  ·rename_i h1
   split at e
   ·cases e
   ·rename_i h2;exact Jn hn f (pA stp em la ho h1 h2) (L0 stp em la hn ho h h1) e
  ·cases e;exact h
theorem x4 {labs:List ByteArray} (hn:labs.Nodup) {st:mK} (h:nC stp em la labs=some st):A0 labs st∧st.rows.length=st.all.length∧SW stp em la labs st:=by
 have ho:=DG stp em la 257 (L4 labs) (by simp [s0]) h;exact ⟨ho.1,ho.2,Jn stp em la hn 257 (L4 labs) ⟨rfl,fun i hi=>by simp [s0] at hi,fun i hi=>by simp [s0] at hi⟩ h⟩
def Made (a:List Nat):Prop:=a≠[]∧(a=[0]∨ ∃cur l,a=stp cur l)
theorem qv {cur:List Nat} {all:List (List Nat)} (h: ∀a∈all,Made stp a): ∀labs:List ByteArray, ∀a∈(dr stp cur all labs).1,Made stp a:=by
 refine fg h ?_;intro labs l ih;rw [jk,AI]
 split
 ·exact ih
 ·rename_i hne
  split
  ·exact ih
  ·intro a ha
   rcases List.mem_append.1 ha with ha|ha
   ·exact ih a ha
   ·simp only [Wq] at ha;subst ha;exact ⟨hne, .inr ⟨_,_,rfl⟩⟩
theorem vV {labs:List ByteArray}: ∀(f:Nat) {st st':mK},(∀a∈st.all,Made stp a)->mz stp em la labs f st=some st'-> ∀a∈st'.all,Made stp a
 | 0,st,st',h,e=>by simp only [mz,UI] at e;subst e;exact h
 | f+1,st,st',h,e=>by
  rw [mz] at e
  split at e
  ·split at e
   ·cases e
   ·exact vV f (qv stp h labs) e
  ·cases e;exact h
theorem FW {labs:List ByteArray} {st:mK} (h:nC stp em la labs=some st): ∀a∈st.all,Made stp a:=vV stp em la 257 (fun a ha=>by
 simp only [s0,Wq] at ha;subst ha;exact ⟨by simp, .inl rfl⟩) h
variable {stp em la}
theorem y9 (ha: ∀l,stp [] l=[]): ∀w:List ByteArray,w.foldl stp []=[]
 | []=>rfl
 | l :: w=>by rw [V7,ha,y9 ha w]
theorem tX {labs:List ByteArray} {st:mK} (hl:st.rows.length=st.all.length) (hw:SW stp em la labs st) (ha: ∀l,stp [] l=[]) (hx: ∀cur l,l∉labs->stp cur l=[]): ∀(w:List ByteArray) (i:Nat) (cur:List Nat),st.all[i]? = some cur->cur≠[] ->
  (w.foldl stp cur=[]->uB st.rows i w=none)∧(w.foldl stp cur≠[]-> ∃k,uB st.rows i w=some k∧st.all[k]? = some (w.foldl stp cur))
 | [],i,cur,hi,hc=>⟨fun h=>absurd h hc,fun _=>⟨i,rfl,hi⟩⟩
 | l :: w,i,cur,hi,hc=>by
  have hlt:=(Uy.1 hi).1;have hr:=hw.row i (by omega) l;rw [Vq (l:=st.all),hi,Wz] at hr;rw [uB,V7]
  by_cases he:stp cur l=[]
  ·rw [hr.2 (.inr he),he,y9 ha];exact ⟨fun _=>rfl,fun h=>absurd rfl h⟩
  ·have hm:l∈labs:=Classical.byContradiction fun h=>he (hx cur l h);obtain ⟨k,k1,k2⟩:=hr.1 hm he;rw [k1];exact tX hl hw ha hx w k _ k2 he
theorem FV {labs:List ByteArray} {st:mK} (hl:st.rows.length=st.all.length) (hw:SW stp em la labs st) (ha: ∀l,stp [] l=[]) (hx: ∀cur l,l∉labs->stp cur l=[]) (w:List ByteArray) {i:Nat} {cur:List Nat} (hi:st.all[i]? = some cur) (hc:cur≠[]) {q:Nat} (hq:q∈w.foldl stp cur) (hq2:q∈la):c6 st.rows st.ends i w=true:=by
 obtain ⟨k,k1,k2⟩:=(tX hl hw ha hx w i cur hi hc).2 (List.ne_nil_of_mem hq);rw [c6,k1];simp only;rw [hw.Br k (by rw [hl];exact (Uy.1 k2).1),Vq,k2,Wz]
 have:(w.foldl stp cur).any (fun p=>la.contains p)=true:=List.any_eq_true.2 ⟨q,hq,by simpa using hq2⟩
 rw [this,Bool.or_true]
theorem Ce {labs:List ByteArray} {st:mK} (hl:st.rows.length=st.all.length) (hw:SW stp em la labs st) (ha: ∀l,stp [] l=[]) (hx: ∀cur l,l∉labs->stp cur l=[]) (h0: ∀cur l,0∉stp cur l) (hl0:0∉la) (w:List ByteArray) :
  c6 st.rows st.ends 0 w=((w.length==0&&em)||(w.foldl stp [0]).any (fun p=>la.contains p)):=by
 obtain ⟨h1,h2⟩:=tX hl hw ha hx w 0 [0] hw.zero (by simp)
 by_cases he:w.foldl stp [0]=[]
 ·rw [c6,h1 he,he]
  cases w with
  | nil=>simp at he
  | cons l w=>rfl
 ·obtain ⟨k,k1,k2⟩:=h2 he;rw [c6,k1];simp only;have hk:=(Uy.1 k2).1;rw [hw.Br k (by omega),Vq,k2,Wz]
  cases w with
  | nil=>
   simp only [uB,UI] at k1;subst k1
   rfl
  | cons l w=>
   have hne:k≠0:=fun e=>by
    subst e
    have:=hw.zero.symm.trans k2
    simp only [UI] at this
    have hh: ∀(w:List ByteArray) (cur:List Nat),0∉cur->0∉w.foldl stp cur:=fun w=>by
     induction w with
     | nil=>exact fun cur h=>h
     | cons m w ih=>exact fun cur h=>ih _ (h0 _ _)
    exact hh w (stp [0] l) (h0 _ _) (by rw [V7] at this;rw [<-this];simp)
   have:(k==0)=false:=by simpa using hne
   rw [this];rfl
end
def zo:Go.Shelf.Ren:=⟨fun|7=>98|10=>130|n=>n,fun|23=>84|26=>9|3=>3|28=>149|0=>0|27=>148|33=>124|4=>4|n=>n,fun n=>n⟩
theorem vC:SlLaysZ.n7 Tryz.prog zo:={
 mixed:=by kernel_rfl
 f7:=⟨Tryz.f98.name,by decide,Tryz.func98⟩
 f10:=⟨Tryz.f130.name,by decide,Tryz.func130⟩
 t0:=by kernel_rfl
 a0:=fun w=>by kernel_rfl
 z0:=fun w=>by kernel_rfl
 v0:=fun w=>by kernel_rfl
 t4:=by kernel_rfl
 a4:=fun w=>by kernel_rfl
 z4:=fun w=>by kernel_rfl
 v4:=fun w=>by kernel_rfl
 t23:=by kernel_rfl
 a23:=fun w=>by kernel_rfl
 z23:=fun w=>by kernel_rfl
 v23:=fun w=>by kernel_rfl
 t26:=by kernel_rfl
 a26:=fun w=>by kernel_rfl
 z26:=fun w=>by kernel_rfl
 v26:=fun w=>by kernel_rfl
 t27:=by kernel_rfl
 a27:=fun w=>by kernel_rfl
 z27:=fun w=>by kernel_rfl
 v27:=fun w=>by kernel_rfl
 t28:=by kernel_rfl
 a28:=fun w=>by kernel_rfl
 z28:=fun w=>by kernel_rfl
 v28:=fun w=>by kernel_rfl
 t33:=by kernel_rfl
 a33:=fun w=>by kernel_rfl
 z33:=fun w=>by kernel_rfl
 v33:=fun w=>by kernel_rfl }
def ua:Go.Shelf.Ren:=⟨fun|6=>97|8=>129|9=>55|11=>148|13=>87|12=>86|23=>125|24=>126|14=>116|15=>117|16=>118|17=>119|18=>120|19=>121|20=>122|21=>123|22=>124|25=>140|26=>141|27=>142|28=>143|29=>144|30=>145|31=>160|n=>n,fun|26=>9|28=>149|24=>26|0=>0|3=>3|37=>121|48=>95|50=>178|4=>4|40=>170|39=>169|45=>57|5=>5|9=>9|51=>186|55=>190|57=>204|58=>205|33=>124|n=>n,fun n=>n⟩
theorem Ak:SlLaysZ.n6 Tryz.prog ua:={
 mixed:=by kernel_rfl
 f6:=⟨Tryz.f97.name,by decide,Tryz.func97⟩
 f8:=⟨Tryz.f129.name,by decide,Tryz.func129⟩
 f11:=⟨Tryz.f148.name,by decide,Tryz.func148⟩
 t0:=by kernel_rfl
 a0:=fun w=>by kernel_rfl
 z0:=fun w=>by kernel_rfl
 v0:=fun w=>by kernel_rfl
 t24:=by kernel_rfl
 a24:=fun w=>by kernel_rfl
 z24:=fun w=>by kernel_rfl
 v24:=fun w=>by kernel_rfl
 t26:=by kernel_rfl
 a26:=fun w=>by kernel_rfl
 z26:=fun w=>by kernel_rfl
 v26:=fun w=>by kernel_rfl
 t28:=by kernel_rfl
 a28:=fun w=>by kernel_rfl
 z28:=fun w=>by kernel_rfl
 v28:=fun w=>by kernel_rfl
 i26:=by kernel_rfl }
def Jy:Go.Shelf.Ren:=⟨fun|6=>55|8=>87|9=>86|19=>125|20=>126|21=>116|22=>117|23=>118|24=>119|25=>120|26=>121|27=>122|28=>123|29=>124|36=>140|31=>141|32=>142|37=>143|38=>144|39=>145|41=>160|n=>n,fun|27=>26|29=>9|3=>3|32=>121|26=>26|0=>0|44=>95|46=>178|4=>4|36=>170|35=>169|41=>57|5=>5|9=>9|53=>186|57=>190|63=>204|64=>205|n=>n,fun n=>n⟩
theorem mZ:SlLaysM.n6 Tryz.prog Jy:={
 mixed:=by kernel_rfl
 f6:=⟨Tryz.f55.name,by decide,Tryz.func55⟩
 f8:=Tryz.func87
 f9:=⟨Tryz.f86.name,by decide,Tryz.func86⟩
 f19:=Tryz.func125
 f20:=Tryz.func126
 f21:=⟨Tryz.f116.name,by decide,Tryz.func116⟩
 f22:=⟨Tryz.f117.name,by decide,Tryz.func117⟩
 f23:=⟨Tryz.f118.name,by decide,Tryz.func118⟩
 f24:=⟨Tryz.f119.name,by decide,Tryz.func119⟩
 f25:=⟨Tryz.f120.name,by decide,Tryz.func120⟩
 f26:=⟨Tryz.f121.name,by decide,Tryz.func121⟩
 f27:=⟨Tryz.f122.name,by decide,Tryz.func122⟩
 f28:=⟨Tryz.f123.name,by decide,Tryz.func123⟩
 f29:=⟨Tryz.f124.name,by decide,Tryz.func124⟩
 f31:=Tryz.func141
 f32:=Tryz.func142
 f36:=⟨Tryz.f140.name,by decide,Tryz.func140⟩
 f37:=⟨Tryz.f143.name,by decide,Tryz.func143⟩
 f38:=⟨Tryz.f144.name,by decide,Tryz.func144⟩
 f39:=⟨Tryz.f145.name,by decide,Tryz.func145⟩
 f41:=⟨Tryz.f160.name,by decide,Tryz.func160⟩
 t0:=by kernel_rfl
 a0:=fun w=>by kernel_rfl
 z0:=fun w=>by kernel_rfl
 v0:=fun w=>by kernel_rfl
 t3:=by kernel_rfl
 a3:=fun w=>by kernel_rfl
 z3:=fun w=>by kernel_rfl
 v3:=fun w=>by kernel_rfl
 t4:=by kernel_rfl
 a4:=fun w=>by kernel_rfl
 z4:=fun w=>by kernel_rfl
 v4:=fun w=>by kernel_rfl
 t5:=by kernel_rfl
 a5:=fun w=>by kernel_rfl
 z5:=fun w=>by kernel_rfl
 v5:=fun w=>by kernel_rfl
 t9:=by kernel_rfl
 a9:=fun w=>by kernel_rfl
 z9:=fun w=>by kernel_rfl
 v9:=fun w=>by kernel_rfl
 t26:=by kernel_rfl
 a26:=fun w=>by kernel_rfl
 z26:=fun w=>by kernel_rfl
 v26:=fun w=>by kernel_rfl
 t27:=by kernel_rfl
 a27:=fun w=>by kernel_rfl
 z27:=fun w=>by kernel_rfl
 v27:=fun w=>by kernel_rfl
 t29:=by kernel_rfl
 a29:=fun w=>by kernel_rfl
 z29:=fun w=>by kernel_rfl
 v29:=fun w=>by kernel_rfl
 t32:=by kernel_rfl
 a32:=fun w=>by kernel_rfl
 z32:=fun w=>by kernel_rfl
 v32:=fun w=>by kernel_rfl
 t35:=by kernel_rfl
 a35:=fun w=>by kernel_rfl
 z35:=fun w=>by kernel_rfl
 v35:=fun w=>by kernel_rfl
 t36:=by kernel_rfl
 a36:=fun w=>by kernel_rfl
 z36:=fun w=>by kernel_rfl
 v36:=fun w=>by kernel_rfl
 t41:=by kernel_rfl
 a41:=fun w=>by kernel_rfl
 z41:=fun w=>by kernel_rfl
 v41:=fun w=>by kernel_rfl
 t44:=by kernel_rfl
 a44:=fun w=>by kernel_rfl
 z44:=fun w=>by kernel_rfl
 v44:=fun w=>by kernel_rfl
 t46:=by kernel_rfl
 a46:=fun w=>by kernel_rfl
 z46:=fun w=>by kernel_rfl
 v46:=fun w=>by kernel_rfl
 t53:=by kernel_rfl
 a53:=fun w=>by kernel_rfl
 z53:=fun w=>by kernel_rfl
 v53:=fun w=>by kernel_rfl
 t57:=by kernel_rfl
 a57:=fun w=>by kernel_rfl
 z57:=fun w=>by kernel_rfl
 v57:=fun w=>by kernel_rfl
 t63:=by kernel_rfl
 a63:=fun w=>by kernel_rfl
 z63:=fun w=>by kernel_rfl
 v63:=fun w=>by kernel_rfl
 t64:=by kernel_rfl
 a64:=fun w=>by kernel_rfl
 z64:=fun w=>by kernel_rfl
 v64:=fun w=>by kernel_rfl }
def bY (r:aU):List (List AV):=r.map (fun p=>[.v (.string p.1), .v (.int .i64 (p.2:Nat))])
theorem zC (r:aU):(bY r).length=r.length:=by simp [bY]
@[go_sem] theorem pG (n:Nat) (r:aU):bw n (bY r)=true:=bB _ (fun p=>rfl) _
theorem wI (s:ByteArray): ∀r:aU,oL .string (.string s) (bY r)=some ((look r s).map (fun n=> .v (.int .i64 (n:Nat))))
 | []=>rfl
 | p :: l=>by
  have ih:=wI s l;simp only [bY,Wy,oL];rw [if_pos (show dm .string (.string p.1)=true from rfl)]
  by_cases h:fu (.string s) (.string p.1)=true
  ·have h':cw s p.1=true:=h;rw [if_pos h];simp [look,h']
  ·have h':cw s p.1=false:=by
    cases hh:cw s p.1
    ·rfl
    ·exact absurd hh h
   rw [if_neg h];simp only [bY] at ih;rw [ih];simp [look,h']
theorem pT (s:ByteArray) (n:Nat): ∀r:aU,look r s=none->pS .string (.string s) (.v (.int .i64 (n:Nat))) (bY r)=some (bY (r++[(s,n)]))
 | [],_=>rfl
 | p :: l,hn=>by
  simp only [bY,Wy,pS,List.cons_append];rw [if_pos (show dm .string (.string p.1)=true from rfl)]
  by_cases h:fu (.string s) (.string p.1)=true
  ·have h':cw s p.1=true:=h;simp [look,h'] at hn
  ·have h':cw s p.1=false:=by
    cases hh:cw s p.1
    ·rfl
    ·exact absurd hh h
   have ih:=pT s n l (by simpa [look,h'] using hn);rw [if_neg h];simp only [bY] at ih;rw [ih];rfl
@[go_sem] theorem pF (n:Nat) (rows:List aU):bw n (rows.map (fun r=>[AV.mp (bY r)]))=true:=bB _ (fun r=>by simp only [aV,AV.wf,pG,WA]) _
@[go_sem] theorem pE (n:Nat) (ends:List Bool):bw n (ends.map (fun b=>[AV.v (.bool b)]))=true:=bB _ (fun r=>rfl) _
def gV (rows:List aU) (ends:List Bool):List AV:=[.aC 1 (rows.map (fun r=>[.mp (bY r)])) rows.length, .aC 1 (ends.map (fun b=>[.v (.bool b)])) ends.length]
section
open Go.Maps Go.Sort Go.WideElems
theorem JN:Tryz.prog.underlying 9=some .string:=by kernel_rfl
def GH (_:Value):Option (DataW Unit×List MemPlace):=some (.lit (.bool true),[])
def qO (r:aU):List (List UInt8):=r.map (fun p=>p.1.data.toList)
theorem Ol {e:MapEntry} {s:ByteArray} (hk:e.key = .string s) (hs:s.size<=maxLen):rd Tryz.prog 9 GH e=some (.string s.data.toList, .lit (.bool true)):=by
 unfold WideElems.rd;rw [hk,Go.WideMaps.keyOf_string_mk JN hs];rfl
theorem Lt {D:Nat->Prop} {nu:Nat->Nat->Value} {o:List (Option aa)} {w:World} {r:aU} {x:Value} (h:RA D nu o w (.mp (bY r)) x) (hs: ∀p∈r,p.1.size<=maxLen) (hn:(r.map Prod.fst).Nodup) (hl:r.length<=1000000) :
  ∃b D0,x = .map (some b)∧b<w.heap.size∧w.ownsMap Tryz.prog 9 GH b r.length D0∧(strKeys D0).Perm (qO r)∧Maps.size D0=r.length:=by
 cases h with
 | mp _ b es cl h1 h2 h3 h4 h5 h6 h7=>
 have hlen:es.size=r.length:=by rw [h3,zC]
 have hget: ∀(i:Nat) (hi:i<es.toList.length),es[i]? = some es.toList[i]:=fun i hi=>by rw [<-Array.getElem?_toList];exact UM hi
 have hk: ∀(i:Nat) (hi:i<es.toList.length) (hi':i<r.length),(es.toList[i]).key=Value.string r[i].1:=fun i hi hi'=>by
  have hrow:(bY r)[i]? = some [.v (.string r[i].1), .v (.int .i64 (r[i].2:Nat))]:=by rw [bY,UP,UM hi'];rfl
  exact (h7 i 0 _ _ _ hrow rfl (hget i hi)).plain
 have hkeys:es.toList.map (fun e=>e.key)=r.map (fun p=>Value.string p.1):=List.ext_getElem (by simp [hlen]) fun i k1 k2=>by
  rw [Wp,Wp];exact hk i (by simpa using k1) (by simpa using k2)
 have hrd: ∀(i:Nat) (hi:i<es.toList.length) (hi':i<r.length),rd Tryz.prog 9 GH es.toList[i]=some (.string r[i].1.data.toList, .lit (.bool true)):=fun i hi hi'=>Ol (hk i hi hi') (hs _ (List.getElem_mem hi'))
 refine ⟨b,_,rfl,h1.1,⟨es,cl,h2,⟨by unfold maxLen;omega,⟨?_, ?_, ?_⟩, ?_⟩,by omega,rfl⟩, ?_, ?_⟩
 ·intro e he;obtain ⟨i,hi,rfl⟩:=List.getElem_of_mem he;exact h5 i _ (hget i hi)
 ·rw [List.Nodup,List.pairwise_iff_getElem];intro i j hi hj hij;rw [Wp,Wp]
  have:=h6 i j _ _ (hget i (by simpa using hi)) (hget j (by simpa using hj)) hij
  omega
 ·have e:es.toList.map (fun x=>x.key)=(r.map Prod.fst).map Value.string:=by rw [hkeys,WB];rfl
  rw [e,List.Nodup,WC];exact hn.imp fun hne e=>hne (by cases e;rfl)
 ·intro e he;obtain ⟨i,hi,rfl⟩:=List.getElem_of_mem he;exact ⟨_,hrd i hi (by simpa [hlen] using hi)⟩
 ·rw [strKeys];refine ((WideShapes.sorted_perm _).map _).trans (List.Perm.of_eq ?_);rw [WB];refine List.ext_getElem (by simp [qO,hlen]) fun i k1 k2=> ?_
  have hi:i<es.toList.length:=by simpa using k1
  simp only [qO,Wp,Function.comp];rw [rg_of (hrd i hi (by simpa [hlen] using hi))];rfl
 ·show (List.foldr DataW.insert [] _).length=_;rw [(WideShapes.sorted_perm _).length_eq,Vp];simp [hlen]
def iN (l:List ByteArray):Prop:=l.Pairwise (fun a b=>a.data.toList<b.data.toList)
theorem Fa {r:aU} (h:iN (r.map Prod.fst)):(qO r).mergeSort (fun x y=>decide (x<=y))=qO r:=by
 refine List.mergeSort_of_pairwise ?_;rw [qO,WC];rw [iN,WC] at h;exact h.imp fun hh=>decide_eq_true (List.le_of_lt hh)
theorem lp {l:List ByteArray} (h:iN l):l.Nodup:=h.imp fun {a b} hh e=>by subst e;exact absurd hh (List.lt_irrefl _)
end
def Qr (_:Nat->Prop) (_:World) (x:Value):Prop:= ∃b,x = .pointer (some ⟨b,0,none⟩)
def zn (r:aU):AV:= .fn 130 [] [.j9 Qr (.vp [.mp (bY r)])]
@[go_sem] theorem AA (n:Nat) (r:aU):(zn r).wf n=true:=by simp only [zn,AV.wf,aV,pG,WA]
theorem Lf (r:aU):ar Tryz.prog 98 [.mp (bY r)] (zn r):=by
 refine ⟨⟨by simp only [aV,AV.wf,pG,WA],AA 0 r⟩,by kernel_rfl,fun D nu w vargs hro hra=> ?_⟩;obtain ⟨x,rfl,hx⟩:=jR hra
 obtain ⟨b,rfl⟩: ∃b,x = .map (some b):=by cases hx;exact ⟨_,rfl⟩
 refine ((callsIn_wide (n:=5)).1 (AnyZ.keys_in vC Fence.wide 5 trivial rfl (some b) w)).mono ?_;rintro e w' ⟨rfl,rfl⟩;have hb:Below w.heap.size w (w.alloc (.cells #[.map (some b)] 84)):=(Below.refl _ _).alloc (Nat.le_refl _) _;have hz:Fz D nu [] (w.alloc (.cells #[.map (some b)] 84)) w.heap.size:=⟨by simp,bd _ _,hro.up _ (Nat.le_refl _)⟩;refine ⟨_,nu,[],zn r,rfl,au hb,hro.below hb, ?_,rfl,rfl⟩;refine .fn _ _ _ _ _ rfl rfl (fun i c x h=>by simp at h) (fun i c y h1 h2=> ?_)
 cases i with
 | succ i=>simp at h1
 | zero=>
  simp only [VC,UI] at h1;simp at h2;subst h1;subst h2
  refine .j9 _ _ _ (fun _=>False) rfl (fun b h=>h.elim) (fun b h=>h.elim) (fun w' _=>⟨_,rfl⟩) (.vp _ _ 0 (fun _=> .map (some b)) hz (fun j c hc=> ?_) (fun j c hc=> ?_) (fun j c hc=>rfl))
  ·cases j with
   | succ j=>simp at hc
   | zero=>
    have h:=e7 w (.cells #[.map (some b)] 84);exact (sa h 0).trans rfl
  ·cases j with
   | succ j=>simp at hc
   | zero=>
    simp only [VC,UI] at hc;subst hc;exact hx.mono (au hb) (fun _ _ h=>h)
theorem Ov (m:Nat):AnyZ.SortsIn Tryz.prog ua Fence.wide m:=
 ⟨fun ew off cap ss W hH hblk hsz=>callsIn_wide.2 (AnyM.slices_Sort_string mZ ew off cap ss W hH hblk hsz),
  fun p cap W=>callsIn_wide.2 (AnyM.slices_Sort_string_none mZ p cap W)⟩
theorem FX (r:aU) (hs: ∀p∈r,p.1.size<=maxLen) (hr:iN (r.map Prod.fst)) (hl:r.length<=1000000):ar Tryz.prog 97 [zn r] (ba (r.map Prod.fst)):=
 .Du (by kernel_rfl) (by simp only [aV,AA,WA]) (fun D nu w vargs hra=>by
  obtain ⟨x,rfl,hx⟩:=jR hra
  cases hx with
  | fn _ _ _ fi ca h1 h2 h3 h4=>
  obtain ⟨y,rfl,hy⟩:=jR (D:=D) (nu:=nu) (o:=[]) (w:=w) ⟨h2,h4⟩;obtain rfl:fi = #[]:=Array.eq_empty_of_size_eq_zero (by simpa using h1.symm)
  cases hy with
  | j9 _ _ _ S k0 k1 k2 k3 k4=>
  obtain ⟨Bm,rfl⟩:=k3 w (fun _ _=>rfl)
  cases k4 with
  | vp _ _ _ f q1 q2 q3 q4=>
  have hm:=q2 0 _ rfl;have hmap:=q3 0 _ rfl;obtain ⟨b,D0,e0,hb,hown,hperm,hsize⟩:=Lt hmap hs (lp hr) hl;rw [e0] at hm;simp only [Nat.add_zero] at hm;have hseq:=AnyZ.keys_gives (ρ:=zo) { vC with } Fence.wide 2 trivial rfl (by omega) Bm b r.length D0 w q1.1 hm hown;have cS:=AnyZ.sorted_in Ak Fence.wide 5 trivial trivial trivial trivial rfl (by omega) (Ov _) (enters_of Tryz.func55 (by kernel_rfl) rfl) 130 #[.pointer (some ⟨Bm,0,none⟩)] trivial (enters_of Tryz.func130 (by kernel_rfl) rfl) _ _ (by rw [hsize];unfold maxLen;omega) (by rw [hsize];omega) w hseq;refine ((callsIn_wide (n:=5)).1 cS).mono ?_;rintro e w' ⟨v,ss,rfl,hS,hrow,hnil,hbl⟩
  have hlen:ss.length=(r.map Prod.fst).length:=by rw [hS.length_eq,hperm.length_eq,qO,Vp,Vp]
  have hk:(ss.mergeSort (fun x y=>decide (x<=y))).map encStr=(r.map Prod.fst).map Value.string:=by
   rw [Go.mergeSort_of_perm (hS.trans hperm),Fa hr,qO,WB,WB];refine List.map_congr_left fun p _=> ?_;simp [encStr]
  rw [hlen,hk] at hrow
  exact ⟨v,rfl,B5 hrow,hbl,FC hrow⟩)
theorem Lr {r:aU} {i:Nat} (h:i<r.length):bY (r.drop i)=[.v (.string r[i].1), .v (.int .i64 (r[i].2:Nat))] :: bY (r.drop (i+1)):=by
 rw [bY,List.drop_eq_getElem_cons h];rfl
theorem NW {r:aU} (hr:iN (r.map Prod.fst)) {i:Nat} (h:i<r.length):look r r[i].1=some r[i].2:=ru (lp hr) (List.getElem_mem h)
theorem v7 (rows:List aU) (ends:List Bool) (s:Nat) (hs:s<rows.length) (hN:rows.length<=1000000) (hz: ∀p∈rows[s],p.1.size<=maxLen) (hr:iN (rows[s].map Prod.fst)) (hl:rows[s].length<=1000000) :
  rM Tryz.prog 96 [.vp [.vp (gV rows ends)], .vp [.v (.int .i64 (s:Nat))]] [] (bY rows[s]):=by
 have CK:=Lf rows[s];have CS:=FX rows[s] hz hr hl
 have e0:bY rows[s]=bY (rows[s].drop 0):=by rw [List.drop_zero]
 have eR:(rows.map (fun r=>[AV.mp (bY r)])).getD s []=[.mp (bY rows[s])]:=by
  rw [Vq,UP,UM hs];rfl
 rw [show rM Tryz.prog 96 [.vp [.vp (gV rows ends)], .vp [.v (.int .i64 (s:Nat))]] [] (bY rows[s])=rM Tryz.prog 96 [.vp [.vp (gV rows ends)], .vp [.v (.int .i64 (s:Nat))]] [] (bY (rows[s].drop 0)) by rw [<-e0]];simp only [gV,ba,Vp] at *
 (refine rM.enter Tryz.func96 rfl (by kernel_rfl) (by kernel_rfl) rfl (fun l=> ?_);simp only [Tryz.ntmps96,Tryz.results96,List.length_cons,List.length_nil,Nat.reduceAdd,Nat.reduceSub,List.replicate_succ,List.replicate_zero,List.cons_append,List.nil_append])
 (refine sE eR ?_;intro K hK)
 refine b8 [] [] (by decide+kernel) (by kernel_rfl) ?_
 repeat (first|(with_reducible first|refine aA.up ?_|refine fun (K:AK) hK=> ?_|refine ae (by decide) ?_|(refine hK _ ?_;clear hK K))|simp only [go_sem,eR]|with_reducible refine wA ?_|clear hK K)
 refine bj.one CK ?_
 (revert K;revert K;refine sE eR ?_;intro K hK K hK)
 refine bj.one CS ?_
 (revert K;revert K;refine sE eR ?_)
 refine u0 (ι:=Nat) 17 (fun i=>[(16, .v (.int .i64 i)),(5, .undef)]) (fun i=>[]) (fun i=> .run l (bY (rows[s].drop i))) (fun i=>rows[s].length - i) (fun i=>i<=rows[s].length) 0 (by omega) ?_ ?_
 ·refine bo ?_ aj
  rfl
 ·rintro i hi K hK
  (revert K;refine By ?_;intro K hK K hK)
  refine bH.part (fun h=> ?_) (fun h=> ?_)
  ·have hlt:i<rows[s].length:=by replace h:=bI h;omega
   have eW:=ak (k:=i) (by omega)
   have eG:(List.map encS (List.map Prod.fst rows[s])).getD i []=[.v (.string rows[s][i].1)]:=by
    rw [Vq,UP,UP,UM hlt];rfl
   have eY:=Lr hlt;have eA:=wI rows[s][i].1 rows[s];rw [NW hr hlt] at eA;simp only [Option.map_some] at eA
   repeat (first|(with_reducible first|refine aA.up ?_|refine fun (K:AK) hK=> ?_|refine ae (by decide) ?_|(refine hK _ ?_;clear hK K))|simp only [go_sem,eG,h]|with_reducible refine wA ?_|clear hK K)
   (refine Eu 11 (by decide+kernel) (by kernel_rfl) ?_;simp only [List.drop_succ_cons,List.drop_zero,List.take_succ_cons,List.take_zero])
   repeat' (first|(with_reducible first|refine aA.up ?_|refine fun (K:AK) hK=> ?_|refine ae (by decide) ?_|(refine hK _ ?_;clear hK K))|simp only [go_sem,eR,eA,eY,eW,Go.undef]|with_reducible refine wA ?_|clear hK K|(with_reducible refine ab.one (by assumption) ?_)|(with_reducible refine bj.one (by assumption) ?_)|(refine bH.part (fun hb=> ?_) (fun hb=> ?_)<;>simp only [hb,go_sem,eR,eA,eY,eW,Go.undef])|(refine bH.part (fun hb=> ?_) (fun hb=> ?_))|(with_reducible refine nt.mk ?_ ?_))
   ·exact az.mk (i+1) (by omega) (by omega) (by exact aR aj)
   ·exact .inr trivial
  ·have e1:rows[s].drop i=[]:=List.drop_eq_nil_of_le (by replace h:=bI h;omega);simp only [e1,bY,List.map_nil]
   (revert K;revert K;refine By ?_)
   exact .inl trivial
theorem DL (rows:List aU) (ends:List Bool) (s:Nat):ar Tryz.prog 65 [.vp (gV rows ends), .v (.int .i64 (s:Nat))] (.fn 96 [] [.vp [.vp (gV rows ends)], .vp [.v (.int .i64 (s:Nat))]]):=by
 simp only [gV] at *;refine gE Tryz.func65 Tryz.ntmps65 Tryz.results65 ?_
 repeat' (first|(with_reducible first|refine aA.up ?_|refine fun (K:AK) hK=> ?_|(refine hK _ ?_;clear hK K))|simp only [go_sem]|clear hK K|(with_reducible refine ab.one (by assumption) ?_)|(with_reducible refine bj.one (by assumption) ?_)|(refine bH.part (fun hb=> ?_) (fun hb=> ?_)<;>simp only [hb,go_sem])|(refine bH.part (fun hb=> ?_) (fun hb=> ?_))|(with_reducible refine nt.mk ?_ ?_))
 (refine jm.of 40 rfl ?_;simp only [go_sem])
end
end Go.Proofs.YtfflpdekojlnmaaGreatDoor
