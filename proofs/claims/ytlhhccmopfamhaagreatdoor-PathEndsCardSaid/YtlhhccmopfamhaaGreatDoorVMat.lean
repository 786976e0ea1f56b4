/- texts of one claim, one behind the other. -/
import Derived.Test.YtlhhccmopfamhaaGreatDoorVLent
import Derived.Test.YtlhhccmopfamhaaGreatDoorVAbsV
import Derived.Shelf.Sort.Plain
import Derived.Shelf.Slices.CompactI
import Derived.Shelf.Slices.In.SortNone
import Derived.Shelf.Spec.SlicesGrow
import Derived.Test.YtlhhccmopfamhaaGreatDoorRows
import Derived.LaidMore
import Derived.OpenShut
import Derived.Test.YtlhhccmopfamhaaGreatDoorVAbs
import Derived.Test.YtlhhccmopfamhaaGreatDoorVFen
import Derived.MapKept
import Derived.Sort.Walk0
import Derived.Test.YtlhhccmopfamhaaGreatDoorVAbsZ
import Derived.Maps.RangeRun
import Derived.Sort.MapsRangeIn
set_option linter.unusedSimpArgs false
set_option linter.unusedVariables false
set_option maxRecDepth 100000
set_option maxHeartbeats 16000000
open Bool renaming eq_false_or_eq_true -> afQ, and_eq_true -> aeW, not_eq_true -> aeR, eq_iff_iff -> af7, and_true -> afe
open List renaming getElem?_eq_some_iff -> aek, getElem?_eq_getElem -> aes, eq_nil_of_length_eq_zero -> afM, getElem_mem -> afm, length_append -> aem, flatMap_cons -> afN, mem_cons -> afO, mem_flatMap -> afP, mem_cons_self -> afg, mem_cons_of_mem -> aeX, all_eq_true -> ae7, drop_eq_getElem_cons -> afW, length_cons -> ae0, mem_append_left -> afX, getD_eq_getElem?_getD -> aeS, map_cons -> afZ, nodup_cons -> af0, not_mem_nil -> af1, mem_append -> af2, mem_singleton -> af3, length_nil -> aeg, lt_irrefl -> af4, lt_trans -> af5, pairwise_cons -> af6, nodup_nil -> ae1, getElem?_toArray -> aet, size_toArray -> ae9, filter_cons_of_pos -> af8, filter_cons_of_neg -> af9, getElem_of_mem -> agb, nil_append -> afy, cons_append -> afz, set_append_right -> agc, getElem?_range' -> agd, length_range' -> age, mem_of_getElem? -> aeG, ext_getElem -> agf, getElem_map -> agh, getElem?_append_left -> aej, getElem?_set_ne -> aex, getElem?_set_self -> aew, range_succ -> agi, getElem?_range -> aev, map_congr_left -> agj
open BitVec renaming eq_of_toNat_eq -> afR, lt_of_getLsbD -> afS, eq_of_getLsbD_eq -> afT, getLsbD_and -> afU, getLsbD_neg -> afV
open Nat renaming lt_or_ge -> aei, le_refl -> aed, sub_self -> ae2
open Option.some renaming inj -> aec, injEq -> aep
open Go.MapKept renaming bytes_beq -> afY
open Option renaming map_some -> aeE
open Array renaming getElem?_setIfInBounds_ne -> aga, getElem?_eq_getElem -> aer, getElem?_eq_some_iff -> aeh
namespace Go.Proofs.YtlhhccmopfamhaaGreatDoor
open Go.RowKit
open Go.Proofs.Tryz
def Vy(i:Nat):C5:=[.v (.string ⟨#[]⟩),.v (.string ⟨#[]⟩),.v (.bool false),.v (.string ⟨#[109]⟩),.v (.string ⟨#[]⟩),Aa i,.v (.string ⟨#[]⟩),.v (.slice none 0 0)]
def Vu(i:Nat):C5:=[Aa i,.v (.int .i64 0),.v (.string ⟨#[]⟩),.v (.string ⟨#[]⟩),.v (.int .i64 0),.v (.int .i64 0),.v (.string ⟨#[]⟩),.v (.int .i64 0),.v (.string ⟨#[]⟩),.v (.string ⟨#[]⟩),.v (.int .i64 0),.v (.int .i64 0),.v (.string ⟨#[]⟩)]
def Vx(i:Nat):C5:=[.v (.int .i64 0),.v (.string ⟨#[]⟩),.v (.string ⟨#[]⟩),.v (.int .i64 0),Aa i,.v (.string ⟨#[]⟩)]
def PY(p:qV):C5:=[.v (.string p.bN),.v (.string p.to),.v (.bool p.path),.v (.string p.label),.v (.string p.name),.v (.int .i64 p.expr.kind),.v (.string p.expr.label),.aA 3 (p.expr.kids.map dn++marksOf fT) p.expr.kids.length]
theorem NA(n:Nat)(p:qV):aQ n (PY p)=true:=by simp only[PY,aQ,AV.wf,gx,zL,BU,Bool.and_true,Bool.and_self]
@[go_sem] theorem aaB(n:Nat)(l:PP):bE n (l.map PY)=true:=bt _ (NA n) l
@[go_sem] theorem abN(n k:Nat):bE n (kI Vy k)=true:=ei n _ (λ_=>rfl) k
@[go_sem] theorem Yk(n:Nat):bE n (marksOf Vy)=true:=ei n _ (λ_=>rfl) 12
@[go_sem] theorem abI(n k:Nat):bE n (kI Vu k)=true:=ei n _ (λ_=>rfl) k
@[go_sem] theorem Yh(n:Nat):bE n (marksOf Vu)=true:=ei n _ (λ_=>rfl) 12
@[go_sem] theorem abM(n k:Nat):bE n (kI Vx k)=true:=ei n _ (λ_=>rfl) k
@[go_sem] theorem Yj(n:Nat):bE n (marksOf Vx)=true:=ei n _ (λ_=>rfl) 12
theorem D4{n:Nat}(h:n<=1000000):IntKind.i64.wrap ((n:Int)+12)=((n+12:Nat):Int):=by rw[bS zd zd];omega
def Ll.lens(n:Nat)(q:Ll):Prop:=q.wJ.length<=n∧q.conds.length<=n∧q.ret.length<=n∧∀p,p∈q.wJ->p.expr.lens n
inductive Le:AV->AV->Prop
 |refl (a:AV):Le a a
 |ju (p:(Nat->Prop)->World->Value->Prop) (a b:AV):Le a b->Le (.ju p a) b
 |nil (z:Nat):Le (.v (.slice none 0 0)) (.aA z [] 0)
 |agg (cs ds:C5):cs.length=ds.length->(∀(i:Nat)c d,cs[i]?=some c->ds[i]?=some d->Le c d)->Le (.agg cs) (.agg ds)
 |aA (z:Nat) (rows rows':List C5) (len:Nat):len<=rows'.length->rows'.length<=rows.length->(∀(i:Nat)r r',rows[i]?=some r->rows'[i]?=some r'->r.length=r'.length) ->
   (∀(i j:Nat)r r' c c',rows[i]?=some r->rows'[i]?=some r'->r[j]?=some c->r'[j]?=some c'->Le c c')->Le (.aA z rows len) (.aA z rows' len)
section
variable {D:Nat->Prop} {nu:EQ} {o:AC} {w:World} {P:Program}
theorem RA.le{a b:AV}(h:Le a b):∀{x:Value},RA D nu o w a x->RA D nu o w b x:=by
 induction h with
 |refl a=>exactλh=>h
 |ju p a b _ ih=>intro x h;cases h with|ju _ _ _ S h0 h1 H Y W=>exact ih W
 |nil z=>intro x h;obtain rfl:=h.di;exact .b6 z
 |agg cs ds hl _ ih=>
  intro x h
  cases h with
  |agg _ xs h1 Y W=>
   refine .agg ds xs zd (λi d y hd hy=>?_) W
   have hi:i<cs.length:=by have:=(aek.1 hd).1;omega
   exact ih i cs[i] d (aes hi) hd (Y i _ y (aes hi) hy)
 |aA z rows rows' len h1 Y W _ ih=>
  intro x h;have up:∀(i:Nat)q,rows'[i]?=some q->∃r,rows[i]?=some r:=λi q u=>⟨_,aes (by have:=(aek.1 u).1;omega)⟩
  have upj:∀(i j:Nat)q O,rows'[i]?=some q->q[j]?=some O->∃r c,rows[i]?=some r∧r[j]?=some c:=λi j q O u H=>by
   obtain⟨r,A⟩:=up i q u;exact⟨r,_,A,aes (by have:=W i r q A u;have:=(aek.1 H).1;omega)⟩
  cases h with
  |b6=>
   have:rows'=[]:=afM (by simpa using Y)
   subst this;exact .b6 z
  |cp _ a=>
   have:rows'=[]:=afM (by simpa using Y)
   subst this;exact .cp z a
  |aA _ _ _ b off cap f k1 k2 k3 k4 k5 k6 k7 k8=>
   refine .aA z rows' len b off cap f h1 zd k3 (λhne=>k4 (λe=>hne (by subst e;exact afM (by simpa using Y)))) (λi q u=>?_) (λi j q O u H=>?_) (λi j q O u H=>?_) (λi j q O u H=>?_)
   ·obtain⟨r,A⟩:=up i q u;rw[<-W i r q A u];exact k5 i r A
   ·obtain⟨r,c,V,U⟩:=upj i j q O u H;exact k6 i j r c V U
   ·obtain⟨r,c,V,U⟩:=upj i j q O u H;exact ih i j r q c O V u U H (k7 i j r c V U)
   ·obtain⟨r,c,V,U⟩:=upj i j q O u H;exact k8 i j r c V U
def xx(cs ds:C5):Prop:=cs.length=ds.length∧∀(i:Nat)c d,cs[i]?=some c->ds[i]?=some d->Le c d
theorem xx.nil:xx [] []:=⟨rfl,λi c d h=>by simp at h⟩
theorem xx.cons{c d:AV}{cs ds:C5}(h:Le c d)(k:xx cs ds):xx (c::cs) (d::ds):=⟨by simp[k.1],λi x y u q=>by
 cases i with
 |zero=>cases u;cases q;exact h
 |succ i=>exact k.2 i x y u q⟩
theorem xx.refl(cs:C5):xx cs cs:=⟨rfl,λi c d h k=>by rw[h]at k;cases k;exact .refl c⟩
theorem xx.agg{cs ds:C5}(h:xx cs ds):Le (.agg cs) (.agg ds):= .agg cs ds h.1 h.2
theorem Le.rows{α:Type}{z:Nat}{f g:α->C5}{xs:List α}{more:List C5}(h:∀x,x∈xs->xx (f x) (g x)):Le (.aA z (xs.map f++more) xs.length) (.aA z (xs.map g) xs.length):=by
 have key:∀(i:Nat)r q,(xs.map f++more)[i]?=some r->(xs.map g)[i]?=some q->xx r q:=λi r q A u=>by
  have hi:i<xs.length:=by simpa using(aek.1 u).1
  rw[List.getElem?_append_left (by simpa using hi)]at A;rw[List.getElem?_map,aes hi]at A u;cases A;cases u;exact h _ (afm hi)
 exact .aA z _ _ _ zk zk (λi r q A u=>(key i r q A u).1) (λi j r q c U A u O H=>(key i r q A u).2 j c U O H)
theorem gy.le{cs ds:C5}{xs:Array Value}(h:xx cs ds)(k:gy D nu o w cs xs):gy D nu o w ds xs:=⟨by rw[<-h.1];exact k.len,λi d x q u=>by
 have hi:i<cs.length:=by have:=(aek.1 q).1;have:=h.1;omega
 exact(k.at' i cs[i] x (aes hi) u).le (h.2 i _ d (aes hi) q)⟩
theorem aj.le{f:FuncId}{args args':C5}{r:AV}(h:aj P f args r)(q:aQ 0 args'=true)(hl:xx args' args):aj P f args' r:=h.args q (λ_ _ _ _ k=>k.le hl)
end
theorem yG(x:Ex):xx (dn x) (aP x):=by
 induction x using Ex.ind with
 |h k s l ih=>
  rw[mT,aB];exact .cons (.refl _) (.cons (.refl _) (.cons (.rows ih) .nil))
theorem FE(i:Nat):xx (fT i) (aP (.mk ((8000024+i:Nat):Int) ⟨#[]⟩ [])):=by
 rw[aB];exact .cons (.refl _) (.cons (.refl _) (.cons (.nil 3) .nil))
section
variable {P:Program}
end
def aaM:Go.Shelf.Ren:=⟨fun|189=>112|125=>135|257=>144|128=>171|129=>172|294=>179|295=>180|296=>181|297=>182|298=>183|299=>184|216=>185|300=>186|301=>187|328=>210|329=>204|330=>205|331=>211|332=>212|215=>202|343=>223|n=>n,fun|28=>56|3=>3|46=>212|0=>0|51=>184|53=>256|4=>4|183=>249|182=>248|131=>105|5=>5|9=>9|218=>279|222=>283|228=>296|229=>297|n=>n,λn=>n⟩
def aaJ:Go.Shelf.Ren:=⟨fun|20=>113|n=>n,fun|22=>56|3=>3|4=>4|0=>0|n=>n,λn=>n⟩
theorem jt(b:Nat)(l:Do):bE b (aT l)=true:=bt _ (λ_=>rfl) _
attribute [go_sem] jt
theorem Fk:∀(l:Do)(n i:Nat),l[i]?=some n->l.idxOf n<=i
 | [],n,i,h=>by simp at h
 |x::l,n,0,h=>by simp at h;subst h;simp
 |x::l,n,i+1,h=>by
  have:=Fk l n i (by simpa using h)
  rw[List.idxOf_cons];cases x==n<;>simp only[cond_true,cond_false]<;>omega
def aaL:Go.Shelf.Ren:=⟨fun|4=>111|n=>n,fun|22=>98|25=>3|3=>3|4=>4|9=>9|20=>20|0=>0|n=>n,λn=>n⟩
def adP(w:B0)(x:Ex):Prop:=∀fr:Do,fr.Pairwise (· < ·)->(∀j,j∈fr->j<=w.length)->aj prog 48 [.agg [bZ w],.agg (aP x),.aA 1 (aT fr) fr.length] (.aA 1 (aT (bh w (Lg x) fr)) (bh w (Lg x) fr).length)
inductive He:Ex->Prop
 |lab (s:ByteArray):He (.mk 1 s [])
 |many (k:Int) (s:ByteArray) (l:IO):(k=2∨k=3)->l.length<=900->(∀x∈l,He x)->He (.mk k s l)
 |one (k:Int) (s:ByteArray) (x:Ex):(k=4∨k=5∨k=6)->He x->He (.mk k s [x])
theorem yj{α β:Type}(f:α->List β)(l:List α)(k:Nat)(h:k<l.length):((l.take (k+1)).flatMap f).length=((l.take k).flatMap f).length+(f l[k]).length:=by
 rw[List.take_add_one,List.flatMap_append,aem,aes h];simp only[Option.toList_some,afN,List.flatMap_nil,List.append_nil]
theorem Cz{α β:Type}(f:α->List β)(l:List α)(k:Nat):((l.take k).flatMap f).length<=(l.flatMap f).length:=by
 conv=>rhs;rw[<-List.take_append_drop k l,List.flatMap_append,aem]
 omega
theorem pI{α β:Type}(f:α->List β):∀(l:List α)(x:α),x∈l->(f x).length<=(l.flatMap f).length
 |y::l,x,h=>by
  rw[afN,aem]
  rcases afO.1 h with rfl|h
  ·omega
  ·have:=pI f l x h;omega
theorem ja(k:Int)(s:ByteArray)(l:IO):(aq (.mk k s l)).length=1+(l.flatMap aq).length:=by
 rw[aq,bO,List.length_cons];omega
theorem EZ(x:Ex):1<=(aq x).length:=by
 obtain⟨k,s,l⟩:=x;rw[ja];omega
theorem yi(l:IO):l.length<=(l.flatMap aq).length:=by
 induction l with
 |nil=>simp
 |cons x l ih=>rw[afN,aem,List.length_cons];have:=EZ x;omega
theorem Rk(x:Ex)(u:(aq x).length<=1000000):aj prog 136 [.agg (aP x)] (.v (.int .i64 ((aq x).length:Nat))):=by
 induction x using Ex.ind with
 |h kd s l ih=>
  rw[ja]at u⊢;have hl:=yi l;rw[aB];simp only[Ex.kind,Ex.label,Ex.kids];refine gE func136 ntmps136 results136 ?_
  (refine ag ?_;intro K hK)
  refine b7 (ι:=Nat) (λk=>[(1,.ptr 0 0 3 0 0),(2,.v (.int .i64 0)),(3,.v (.int .i64 (1+((l.take k).flatMap aq).length:Nat))),(4,.v (.int .i64 k))]) (λ_=>[some ⟨25,3,false,[[.v (.int .i64 kd),.v (.string s),.aA 3 (l.map aP) l.length]]⟩]) (λk=>l.length-k) (λk=>k<=l.length) 0 zd ?_ ?_
  ·refine ab (bF ?_) ar ar;exact⟨rfl,rfl⟩
  ·intro k H K hK;simp only[bN,List.foldl_cons,List.foldl_nil,List.replicate_succ,List.replicate_zero,go_sem]
   (revert K;revert K;refine ag ?_;intro K hK K hK K hK)
   refine cn.part (λh=>?_) (λh=>?_)
   ·have q:k<l.length:=by replace h:=cq h;omega
    have eW:=ae (k:=k) zd;have eG:=getD_map aP l k [] q;have V:=yj aq l k q;have U:=Cz aq l (k+1);have O:=pI aq l l[k] (afm q);have C:=ih l[k] (afm q) zd
    have eN:IntKind.i64.wrap (((1+((l.take k).flatMap aq).length:Nat):Int)+(((aq l[k]).length:Nat):Int))=((1+((l.take (k+1)).flatMap aq).length:Nat):Int):=by
     rw[bS zd zd];omega
    simp only[aB]at C eG
    ((iterate 3 revert K);refine ak eG ?_;iterate 4 intro K hK)
    ((iterate 4 revert K);refine Pk C eW eN ?_)
    exact aw.mk (k+1) zd zd (by exact ab ar ar ar)
   ·have A:k=l.length:=by replace h:=cq h;omega
    have eA:l.take k=l:=by rw[A,List.take_length]
    ((iterate 3 revert K);exact vW eA)
theorem iN(x:Ex):∀y,y∈aq x->(aq y).length<=(aq x).length:=by
 induction x using Ex.ind with
 |h k s l ih=>
  intro y q;rw[aq,bO]at q
  rcases afO.1 q with rfl|q
  ·exact Nat.le_refl _
  ·obtain⟨z,u,q⟩:=afP.1 q;have H:=ih z u y q;have A:=pI aq l z u;rw[ja];omega
theorem mj(x:Ex):x.kids.length<=(aq x).length:=by
 obtain⟨k,s,l⟩:=x;rw[ja]
 have:=yi l
 simp only[Ex.kids];omega
theorem Tv{x:Ex}{n:Nat}(h:(aq x).length<=n):x.lens n:=λy q=>by
 have A:=iN x y q;have u:=mj y;omega
theorem Uq(x:Ex):x.ok->∀y,y∈aq x->wI y.label:=by
 induction x using Ex.ind with
 |h k s l ih=>
  intro h y q;rw[Ex.ok]at h;rw[aq,bO]at q
  rcases afO.1 q with rfl|q
  ·exact h.1
  ·obtain⟨z,u,q⟩:=afP.1 q;exact ih z u (uK.1 h.2 z u) y q
theorem AM(x:Ex)(h:x.ok):aj prog 46 [.agg (aP x)] (.v (.bool (aD x))):=
 .vg zo (by simp only[aQ,AV.wf,fp,Bool.and_self]) (λD nu w vargs q=>by
  obtain⟨a,rfl,u⟩:=ic q;obtain⟨ca,rfl,ka⟩:=Dz u
  exact zN x ca w (DG x ca ka) h)
def Fl(p:Ex->Bool):IO->Nat->Int
 | [],_=> -1
 |x::xs,i=>if p x then(i:Int)else Fl p xs (i+1)
theorem Fm(p:Ex->Bool):∀(l:IO)(i:Nat),decide (0<=Fl p l i)=l.any p
 | [],i=>rfl
 |x::xs,i=>by
  rw[Fl,List.any_cons]
  cases p x with
  |true=>simp
  |false=>simpa using Fm p xs (i+1)
theorem C9{g:FuncId}(p:Ex->Bool)(l:IO)(hl:l.length<=1000000)(H:∀x,x∈l->aj prog g [.agg (aP x)] (.v (.bool (p x)))) :
  aj prog 130 [.aA 3 (l.map aP) l.length,.fn g [] []] (.v (.int .i64 (Fl p l 0))):=by
 refine gE func130 ntmps130 results130 ?_
 (refine ag ?_;intro K hK)
 refine aZ (ι:=Nat) 8 (λi=>[(5,.undef),(8,.v (.int .i64 i))]) (λi=>l.length-i) (λi=>i<=l.length∧Fl p l 0=Fl p (l.drop i) i) 0 ⟨Nat.zero_le _,rfl⟩ ?_ ?_
 ·refine ab (bF ?_) ar ar
  rfl
 rintro i ⟨hi,q⟩ K hK
 (revert K;revert K;refine ag ?_;intro K hK K hK K hK)
 refine cn.part (λh=>?_) (λh=>?_)
 ·have u:i<l.length:=by replace h:=cq h;omega
  have eW:=ae (k:=i) zd;have eG:=getD_map aP l i [] u;have HX:=H l[i] (afm u);rw[List.drop_eq_getElem_cons u,Fl]at q;simp only[aB]at HX eG
  ((iterate 3 revert K);refine fb eG @aB ?_;iterate 5 intro K hK)
  refine ah.one HX ?_
  rcases afQ (p l[i])with A|A
  ·rw[A,if_pos rfl]at q
   ((iterate 5 revert K);refine ak A ?_)
   rw[q]
  ·rw[A,if_neg zs]at q
   ((iterate 5 revert K);refine fb A eW ?_)
   exact aw.mk (i+1) ⟨zd,q⟩ zd (by exact ab ar ar ar)
 ·have:i=l.length:=by replace h:=cq h;omega
  rw[this,List.drop_length,Fl]at q
  ((iterate 3 revert K);refine ag ?_)
  rw[q]
theorem oZ{g:FuncId}(p:Ex->Bool)(l:IO)(hl:l.length<=1000000)(H:∀x,x∈l->aj prog g [.agg (aP x)] (.v (.bool (p x)))) :
  aj prog 90 [.aA 3 (l.map aP) l.length,.fn g [] []] (.v (.bool (l.any p))):=by
 have C:=C9 p l hl H;refine gE func90 ntmps90 results90 ?_
 (refine ag ?_;intro K hK K hK)
 (revert K;revert K;refine aM C ?_)
 rw[Fm]
theorem IZ(x:Ex)(H:aj prog 51 [.agg (aP x)] (.v (.bool (aS x)))):aj prog 91 [.agg (aP x)] (.v (.bool (!aS x))):=by
 simp only[aB]at H⊢;refine gE func91 ntmps91 results91 ?_
 (refine ag ?_;intro K hK K hK)
 (revert K;revert K;exact lH H)
theorem Tp(x:Ex)(V:x.lens 1000000):aj prog 51 [.agg (aP x)] (.v (.bool (aS x))):=by
 induction x using Ex.ind with
 |h k s l ih=>
  have hl:l.length<=1000000:=V (.mk k s l) (by rw[aq];exact afg);have H:=λx(h:x∈l)=>ih x h (λy hy=>V y (by rw[aq,bO];exact aeX _ (afP.2 ⟨x,h,hy⟩)));have C1:=oZ aS l hl H;have Y:=oZ (λx=> !aS x) l hl (λx h=>IZ x (H x h))
  have W:l.all aS = !l.any (λx=> !aS x):=by simp[List.all_eq_not_any_not]
  simp only[aB,Ex.kind,Ex.label,Ex.kids,aS,rK,nT]
  by_cases A:k=4
  ·subst A;refine gE func51 ntmps51 results51 ?_;exact s8
  ·by_cases q:k=6
   ·subst q;refine gE func51 ntmps51 results51 ?_;exact s8
   ·by_cases O:k=3
    ·subst O;refine gE func51 ntmps51 results51 ?_
     (refine ag ?_;intro K hK K hK K hK)
     ((iterate 3 revert K);exact lH C1)
    ·by_cases U:k=2
     ·subst U;refine gE func51 ntmps51 results51 ?_
      (refine ag ?_;intro K hK K hK K hK)
      ((iterate 3 revert K);refine aM Y ?_)
      rw[W]
     ·by_cases u:k=5
      ·subst u;refine gE func51 ntmps51 results51 ?_
       (refine ag ?_;intro K hK K hK K hK)
       ((iterate 3 revert K);refine aM Y ?_)
       rw[W]
      ·have f4:(k==4)=false:=beq_false_of_ne A;have f6:(k==6)=false:=beq_false_of_ne q;have f3:(k==3)=false:=beq_false_of_ne O;have f2:(k==2)=false:=beq_false_of_ne U;have f5:(k==5)=false:=beq_false_of_ne u;simp only[if_neg A,if_neg q,if_neg O,if_neg U,if_neg u];refine gE func51 ntmps51 results51 ?_;exact vW (qu f4 f6 f3 f2 f5)
def cH(x:Ex):Bool:=aD x&&aS x
theorem Jh{x:Ex}(h:aD x=true):x.lens 1000000:=λy q=>by
 simp only[aD,aeW,decide_eq_true_eq]at h;have A:=iN x y q;have u:=mj y;omega
theorem wP(x:Ex)(h:x.ok):aj prog 28 [.agg (aP x)] (.v (.bool (cH x))):=by
 have R:=AM x h
 rcases afQ (aD x)with q|q
 ·have E:=Tp x (Jh q);rw[q]at R;rw[show cH x=aS x by rw[cH,q];rfl];simp only[aB]at R E⊢;refine gE func28 ntmps28 results28 ?_
  (refine ag ?_;intro K hK K hK)
  (revert K;revert K;refine aM R ?_;intro K hK K hK)
  (revert K;revert K;exact lH E)
 ·rw[q]at R;rw[show cH x=false by rw[cH,q];rfl];simp only[aB]at R⊢;refine gE func28 ntmps28 results28 ?_
  (refine ag ?_;intro K hK K hK)
  (revert K;revert K;exact Ip R)
theorem MU(x:Ex)(h:(aq x).all Ex.part=true)(hn:(aq x).length<=900):Fit x∧He x:=by
 induction x using Ex.ind with
 |h k s l ih=>
  have q:bP k s l.length=true:=ae7.1 h (.mk k s l) (by rw[aq];exact afg)
  have Y:∀x,x∈l->x∈aq (.mk k s l):=λx u=>by
   rw[aq,bO];exact aeX _ (afP.2 ⟨x,u,by obtain⟨k',s',l'⟩:=x;rw[aq];exact afg⟩)
  have H:=λx(u:x∈l)=>ih x u (ae7.2 λy W=>ae7.1 h y (by rw[aq,bO];exact aeX _ (afP.2 ⟨x,u,W⟩))) (by
   have V:=iN (.mk k s l) x (Y x u)
   omega)
  have hl:l.length<=900:=by have:=mj (.mk k s l);simp only[Ex.kids]at this;omega
  unfold bP at q
  by_cases V:k=1
  ·subst V;simp only[BEq.rfl,if_true,aeW,decide_eq_true_eq]at q;have U:l=[]:=afM q.1;subst U;exact⟨.lab s,.lab s⟩
  ·rw[if_neg (by simpa using V)]at q
   by_cases O:k=2∨k=3
   ·rw[if_pos (by simpa using O)]at q;simp only[aeW,decide_eq_true_eq]at q;exact⟨.many k s l O q.1 (λx u=>(H x u).1),.many k s l O hl (λx u=>(H x u).2)⟩
   ·rw[if_neg (by simpa using O)]at q
    by_cases A:k=4∨k=5∨k=6
    ·rw[if_pos (by simpa [or_assoc]using A)]at q;simp only[aeW,decide_eq_true_eq]at q
     obtain⟨x,rfl⟩:∃x,l=[x]:=by
      match l,q.1 with
      | [x],_=>exact⟨x,rfl⟩
     exact⟨.one k s x A (H x zk).1,.one k s x A (H x zk).2⟩
    ·rw[if_neg (by simpa [or_assoc]using A)]at q;cases q
theorem fO{x:Ex}(h:aD x=true):Fit x∧He x:=by
 simp only[aD,aeW,decide_eq_true_eq]at h;exact MU x h.2 zd
noncomputable def kR(x:Ex)(w:B0):Bool:=aD x && @decide (Lg x w) (Classical.propDecidable _)
theorem iK{x:Ex}{w:B0}:kR x w=true↔aD x=true∧Lg x w:=by simp[kR]
section
theorem qi(n:Int):IntKind.u32.wrap n=n % 4294967296:=by simp[IntKind.wrap,IntKind.signed,IntKind.bits]
theorem Jt(m:BitVec 32):IntKind.u32.wrap (m.toNat:Int)=m.toNat:=by
 rw[qi];have:=m.isLt;omega
theorem ly(m:BitVec 32):BitVec.ofInt 32 (m.toNat:Int)=m:=by
 simp
theorem Kx(m:BitVec 32):IntKind.u32.wrap ((m.toNat:Int)-1)=(m-1#32).toNat:=by
 rw[qi,BitVec.toNat_sub];have:=m.isLt;simp;omega
theorem T7(m:BitVec 32):IntKind.u32.wrap (0-(m.toNat:Int))=(-m).toNat:=by
 rw[qi,BitVec.toNat_neg];have:=m.isLt;omega
theorem T6(m:BitVec 32):IntKind.u32.wrap ((m.toNat:Int)*125613361)=(m*125613361#32).toNat:=by
 rw[qi,BitVec.toNat_mul];simp
theorem Ub(m:BitVec 32):(m.toNat:Int).fdiv (2 ^ min 27 32)=(m >>> 27).toNat:=by
 show(m.toNat:Int).fdiv (2 ^ 27)=_;rw[BitVec.toNat_ushiftRight,Nat.shiftRight_eq_div_pow];simp[Int.fdiv_eq_ediv_of_nonneg]
theorem Ua(p:Nat):IntKind.u32.wrap (1*2 ^ p)=(1#32 <<< p).toNat:=by
 rw[qi,BitVec.toNat_shiftLeft,Nat.shiftLeft_eq];simp
theorem T9(m:BitVec 32):decide ((0:Int)<(m.toNat:Int))=(m !=0#32):=by
 by_cases h:m=0#32
 ·subst h;simp
 ·have e:m.toNat≠0:=λe=>h (afR (by simpa using e));rw[bne_iff_ne.2 h];exact b0
theorem Qe(m:BitVec 32):((m.toNat:Int)==0)=(m==0#32):=by
 by_cases h:m=0#32
 ·subst h;simp
 ·have e:m.toNat≠0:=λe=>h (afR (by simpa using e));rw[beq_eq_false_iff_ne.2 h];exact beq_eq_false_iff_ne.2 zd
theorem Dp(m n:BitVec 32):Ps .u32 m.toNat n.toNat=(m &&& n).toNat:=by
 rw[Ps];show IntKind.u32.wrap ((BitVec.ofInt 32 _ &&& BitVec.ofInt 32 _).toNat:Int)=_;rw[ly,ly,Jt]
theorem ov(m n:BitVec 32):iOr .u32 m.toNat n.toNat=(m ||| n).toNat:=by
 rw[iOr];show IntKind.u32.wrap ((BitVec.ofInt 32 _ ||| BitVec.ofInt 32 _).toNat:Int)=_;rw[ly,ly,Jt]
theorem T8(m n:BitVec 32):xa .u32 m.toNat n.toNat=(m &&& ~~~ n).toNat:=by
 rw[xa];show IntKind.u32.wrap ((BitVec.ofInt 32 _ &&& ~~~ BitVec.ofInt 32 _).toNat:Int)=_;rw[ly,ly,Jt]
def az(m:BitVec 32):Do:=(List.range 32).filter m.getLsbD
theorem bq{m:BitVec 32}{p:Nat}:p∈az m↔m.getLsbD p=true:=by
 simp only[az,List.mem_filter,List.mem_range];exact⟨λh=>h.2,λh=>⟨afS h,h⟩⟩
theorem lF(m:BitVec 32):(az m).Pairwise (· < ·):=List.pairwise_lt_range.filter _
theorem LN(m:BitVec 32):(az m).length<=32:=by
 have:=List.length_filter_le m.getLsbD (List.range 32)
 simpa [az]using this
theorem nL:az 0#32=[]:=by simp[az]
theorem uG{m:BitVec 32}(h:az m=[]):m=0#32:=by
 refine afT λi hi=>?_
 cases q:m.getLsbD i with
 |false=>simp
 |true=>have:=bq.2 q;rw[h]at this;cases this
theorem tu{m:BitVec 32}{p:Nat}{r:Do}(h:az m=p::r):m.getLsbD p=true∧p<32∧(∀j,j<p->m.getLsbD j=false)∧∀j,j∈r↔(m.getLsbD j=true∧p<j):=by
 have H:m.getLsbD p=true:=bq.1 (by rw[h];simp);have u:=lF m;rw[h,List.pairwise_cons]at u
 refine⟨H,afS H,λj q=>?_,λj=>⟨λq=>⟨bq.1 (by rw[h];exact aeX _ q),u.1 j q⟩,λq=>?_⟩⟩
 ·cases O:m.getLsbD j with
  |false=>rfl
  |true=>
   have:=bq.2 O
   rw[h,afO]at this
   rcases this with rfl|A
   ·omega
   ·have:=u.1 j A;omega
 ·have:=bq.2 q.1
  rw[h,afO]at this
  rcases this with rfl|A
  ·omega
  ·exact A
theorem TY{m:BitVec 32}{p:Nat}{r:Do}(h:az m=p::r):m &&& -m=1#32 <<< p:=by
 obtain⟨A,O,u,H⟩:=tu h;refine afT λi hi=>?_;rw[afU,afV,BitVec.getLsbD_shiftLeft,BitVec.getLsbD_one]
 rcases Nat.lt_trichotomy i p with q|q|q
 ·simp[u i q,q]
 ·subst q
  have: ¬ ∃j,j<i∧m.getLsbD j=true:=λ⟨j,a,b⟩=>by rw[u j a]at b;cases b
  rw[A,decide_eq_false this];simp[hi]
 ·have:∃j,j<i∧m.getLsbD j=true:=⟨p,q,A⟩
  have e:i-p≠0:=zd
  simp[this,hi,e]
theorem P8{m:BitVec 32}{p:Nat}{r:Do}(h:az m=p::r):az (m &&& (m-1#32))=r:=by
 obtain⟨O,V,H,U⟩:=tu h;have A:=lF m;rw[h,List.pairwise_cons]at A
 have key:∀j,(m &&& (m-1#32)).getLsbD j=true↔j∈r:=λj=>by
  rw[U, <- BitVec.not_neg,afU,BitVec.getLsbD_not,afV]
  rcases aei p j with q|q
  ·have:∃k,k<j∧m.getLsbD k=true:=⟨p,q,O⟩
   by_cases u:m.getLsbD j=true
   ·have:=afS u
    simp_all
   ·simp_all
  ·by_cases u:m.getLsbD j=true
   ·have e:j=p:=by
     rcases aei j p with a|a
     ·rw[H j a]at u;cases u
     ·omega
    subst e
    have: ¬ ∃k,k<j∧m.getLsbD k=true:=λ⟨k,a,b⟩=>by rw[H k a]at b;cases b
    rw[O,decide_eq_false this];simp[V]
   ·simp_all
 exact tU (lF _) A.2 (λj=>bq.trans (key j))
def aY(m:BitVec 32):AV:= .v (.int .u32 m.toNat)
def Gu:M2:=[0,1,28,2,29,14,24,3,30,22,20,15,25,17,4,8,31,27,13,23,21,19,16,7,26,12,18,6,11,5,10,9]
theorem Xj:∀p:Nat,p<32->Gu[((1#32 <<< p*125613361#32) >>> 27).toNat]?=some (p:Int):=zs
theorem Wn(s:AS):s.ev (.global 0)=.vp (Gu.map λi=> .v (.int .u8 i)):=rfl
theorem Tm{l:M2}{f:Int->AV}{n:Nat}{x:Int}(e:l[n]?=some x):∃r,(l.map f).drop n=f x::r:=by
 obtain⟨u,q⟩:=aek.1 e;exact⟨_,by rw[afW (by simpa using u),List.getElem_map,q]⟩
theorem RB{p:Nat}(q:p<32):∃n r,((1#32 <<< p*125613361#32) >>> 27).toNat=n∧n<32∧(Gu.map λi=>AV.v (.int .u8 i)).drop n=.v (.int .u8 p)::r:=by
 have e:=Xj p q;generalize((1#32 <<< p*125613361#32) >>> 27).toNat=n at *;obtain⟨r,h⟩:=Tm (f:=λi=>AV.v (.int .u8 i)) e;exact⟨n,r,rfl,(aek.1 e).1,h⟩
theorem Xp{m:BitVec 32}{p:Nat}{r:Do}(h:az m=p::r):∃(M H A u:Int)(n:Nat)(q:C5),(m.toNat:Int)=M∧(M==0)=false∧IntKind.u32.wrap (0-M)=H∧Ps .u32 M H=A∧IntKind.u32.wrap (A*125613361)=u ∧
  u.fdiv (2 ^ min 27 32)=n∧n<32∧(Gu.map λi=>AV.v (.int .u8 i)).drop (n*1)=.v (.int .u8 p)::q:=by
 have O:=(tu h).2.1
 have U:m≠0#32:=λe=>by rw[e,nL]at h;cases h
 obtain⟨n,q,eN,hn,eI⟩:=RB O;refine⟨_,_,_,_,n,q,rfl,by rw[Qe];exact beq_eq_false_iff_ne.2 U,rfl,rfl,rfl,?_,hn,by rw[Nat.mul_one];exact eI⟩;rw[T7,Dp,TY h,T6,Ub,eN]
theorem acR{m:BitVec 32}{p:Nat}{r:Do}(h:az m=p::r):aj prog 214 [aY m] (.v (.int .i64 p)):=by
 have V:=(tu h).2.1;obtain⟨M,N1,Y,W,n,U,e0,q,O,H,A,u,hn,eI⟩:=Xp h;simp only[aY,e0];refine gE func214 ntmps214 results214 ?_;refine ak (Me q O H A u @Wn eI) ?_;have eW:IntKind.i64.wrap (p:Int)=p:=bS zd zd;exact vW eW
def rG(m:BitVec 32):aa:=⟨185,1,false,[[aY m]]⟩
theorem LV(p:Nat)(l:Do):aT (p::l)=[.v (.int .i64 p)]::aT l:=rfl
theorem SH(m:BitVec 32):uw prog 213 [.ptr 0 0 1 0 0] [some (rG m)] (aT (az m)):=by
 simp only[rG,aY]
 (refine uw.enter func213 rfl zo zo rfl (λl=>?_);simp only[ntmps213,results213,ae0,List.length_nil,Nat.reduceAdd,Nat.reduceSub,List.replicate_succ,List.replicate_zero,List.cons_append,List.nil_append])
 refine ag ?_
 refine uD (ι:=BitVec 32) 3 (λi=>[]) (λi=>[some (rG i)]) (λi=> .run l (aT (az i))) (λi=>(az i).length) (λ_=>True) m trivial ?_ ?_
 ·simp only[rG,aY];exact ab ar ar ar
 ·rintro i hi K hK;simp only[rG,aY]
  (revert K;refine ak @T9 ?_;intro K hK K hK)
  refine cn.part (λh=>?_) (λh=>?_)
  ·cases q:az i with
   |nil=>rw[uG q]at h;simp at h
   |cons p r=>
    have C:=acR q;have eY:=LV p r;have u:=P8 q;simp only[aY]at C
    (revert K;revert K;refine ag ?_;iterate 4 intro K hK)
    refine ah.one C ?_
    repeat' (first|(with_reducible first|refine bA.up ?_|refineλ(K:AK)hK=>?_|(refine hK _ ?_;clear hK K))|simp only[go_sem,eY,Kx,Dp]|clear hK K|(with_reducible refine ah.one zf ?_)|(with_reducible refine bQ.one zf ?_)|(refine cn.part (λq=>?_) (λq=>?_)<;>simp only[q,go_sem,eY,Kx,Dp])|(refine cn.part (λq=>?_) (λq=>?_))|(with_reducible refine oV.mk ?_ ?_))
    ·refine aw.mk (i &&& (i-1#32)) trivial ?_ ?_
     ·rw[u,q];simp
     ·rw[u];simp only[rG,aY];exact ab ar ar ar
    ·exact .inr trivial
  ·have A:i=0#32:=by simpa using h
   subst A;simp only[nL,aT,List.map_nil]
   (revert K;revert K;refine ag ?_)
   exact .inl trivial
theorem ue(m:BitVec 32):bT prog 188 [aY m] [] (.fn 213 [] [.ptr 0 0 1 0 0]) [some (rG m)]:=by
 simp only[rG,aY];refine gF func188 ntmps188 results188 ?_;refine ag ?_;exact⟨ej,ej,ej⟩
open Go.ChangeShapes Go.WideShapes Go.ChangeAt Go.RowKit
theorem P9{P:Program}{w:World}{n:String}{d:DataW Unit}:∀(laid:List (String×DataW Unit))(ps:List MemPlace),DataW.LaidVars P w laid ps->(n,d)∈laid ->
  ∃g t cs fuel p,P.globalNamed n=some g∧(P.globals[g]?).map (·.type)=some t∧w.var? P n=some cs∧DataW.trod (λ_=>()) P w 0 (λ_=>true) false fuel t cs.toList=some (d,p)∧∀m∈MemPlace.row ⟨g,0,none⟩ cs.size,m∈ps
 | [],ps,h,u=>by cases u
 |(n',d')::r,ps,h,u=>by
  obtain⟨g,t,cs,fuel,p,q,h1,h2,h3,h4,h5,rfl⟩:=h
  rcases afO.1 u with e|u
  ·cases e;exact⟨g,t,cs,fuel,p,h1,h2,h3,h4,λm u=>afX _ (afX _ u)⟩
  ·obtain⟨g',H,A,fuel',O,k1,Y,W,V,U⟩:=P9 r q h5 u;exact⟨g',H,A,fuel',O,k1,Y,W,V,λm u=>List.mem_append_right _ (U m u)⟩
theorem Gv{P:Program}{w:World}{n:String}{laid:List (String×DataW Unit)}{d:DataW Unit}{g:Nat}{T E:TypeId}{k:IntKind}{N:Nat}(vals:M2)(hm:(n,d)∈laid)(hd:d=.agg (vals.map λi=> .lit (.int k i)))(hG:P.globalNamed n=some g)(hT:(P.globals[g]?).map (·.type)=some T)(uT:P.underlying T=some (.array N E))(uE:P.underlying E=some (.int k))
  (cE:P.cellsOf E=1)(cT:P.cellsOf T=N)(hN:0<N)(hv:vals.length=N)(h:laidMet P laid w):∃t,w.heap[g]?=some (.cells (vals.map (λi=>Value.int k i)).toArray t (0,0)):=by
 obtain⟨ps,hl,hnd,hc⟩:=h;obtain⟨g0,t0,cs0,f0,p0,Y,U,q,H,V⟩:=P9 _ _ hl hm;obtain rfl:=aec (hG.symm.trans Y);obtain rfl:=aec (hT.symm.trans U);rw[hd]at H;obtain⟨xs,m,rfl,hx,hlen,hn,A⟩:=DataW.trod_array uT H
 have O:xs.map (·.1)=vals.map λi=>(DataW.lit (.int k i):DataW Unit):=by
  simp only[Prod.mk.injEq,DataW.agg.injEq]at hx;exact hx.1.symm
 rw[cT]at hlen;rw[cE]at A
 have hcs:cs0.toList=vals.map (λi=>Value.int k i):=by
  refine List.ext_getElem (by rw[hlen,List.length_map,hv]) λi h1 h2=>?_
  have hi:i<N:=zd
  have e1:=A i hi;rw[Nat.mul_one,afW h1,List.take_succ_cons,List.take_zero]at e1
  have u:i<xs.length:=zd
  rw[aes u]at e1;obtain⟨n,k1,k2,_⟩:=DataW.trod_int uE e1
  have e2:(xs.map (·.1))[i]?=(vals.map λi=>(DataW.lit (.int k i):DataW Unit))[i]? :=by rw[O]
  have W:i<vals.length:=zd
  rw[List.getElem?_map,List.getElem?_map,aes u,aes W,k2]at e2;simp only[Option.map_some,aep,DataW.lit.injEq,Lit.int.injEq,true_and]at e2;rw[List.getElem_map, <- e2];exact(List.cons.inj k1).1
 obtain⟨⟨c,t,hb⟩,_⟩:=hc g 0 (V _ (by
  rw[MemPlace.row,List.mem_map];refine⟨0,?_,rfl⟩
  rw[List.mem_range, <- Array.length_toList,hlen];exact hN))
 simp only[World.var?,hG,Option.bind_some,hb,aep]at q;refine⟨t,?_⟩;rw[hb,q, <- hcs,Array.toArray_toList]
def aas:M2:=[1,10,100,1000,10000,100000,1000000,10000000,100000000,1000000000,10000000000,100000000000,1000000000000,10000000000000,100000000000000,1000000000000000,10000000000000000,100000000000000000,1000000000000000000,10000000000000000000]
theorem Mf{w:World}(h:laidMetH prog [("math/bits.deBruijn32tab",Rows.laid_math_bits_deBruijn32tab),("math/bits.deBruijn64tab",Rows.laid_math_bits_deBruijn64tab),("internal/strconv.uint64pow10",Rows.laid_internal_strconv_uint64pow10)] w):gD (λ_=>True) (λ_ _=>Go.undef) [] w:=by
 rw[MakeChecks.laidMetH_plain _ _ _ zo]at h
 have A:=Gv (P:=prog) (g:=0) (T:=301) (E:=5) (k:= .u8) (N:=32) (n:= "math/bits.deBruijn32tab") Gu (List.mem_cons_self) rfl zo zo zo zo zo zo zs rfl h
 have u:=Gv (P:=prog) (g:=1) (T:=311) (E:=256) (k:= .u64) (N:=20) (n:= "internal/strconv.uint64pow10") aas (aeX _ (aeX _ List.mem_cons_self)) rfl zo zo zo zo zo zo zs rfl h
 intro g T cs q;unfold AQ at q;refine⟨?_,y0 _ _,trivial⟩
 split at q
 ·rename_i e;obtain⟨-,rfl⟩:=Prod.mk.inj (aec q);subst e;exact A
 ·split at q
  ·rename_i e;obtain⟨-,rfl⟩:=Prod.mk.inj (aec q);subst e;exact u
  ·cases q
abbrev fW:=Int×Int
abbrev LT:=List fW
def gS(a b:fW):Bool:=decide (a.1<b.1)||(decide (a.1=b.1)&&decide (a.2<b.2))
def aX(l:LT)(i:Nat):fW:=l.getD i (0,0)
theorem lI{a b:fW}:gS a b=true↔a.1<b.1∨a.1=b.1∧a.2<b.2:=by simp[gS]
theorem nX{a b c:fW}(h:gS b a=false)(k:gS c b=false):gS c a=false:=by
 rw[<-aeR,lI]at *; omega
theorem jJ{a b:fW}(h:gS a b=true):gS b a=false:=by
 rw[<-aeR,lI];grind[lI]
theorem ke(a:fW):gS a a=false:=by
 rw[<-aeR,lI];omega
def swp(l:LT)(i j:Nat):LT:=(l.set i (aX l j)).set j (aX l i)
theorem js(l:LT)(i j:Nat):(swp l i j).length=l.length:=by simp[swp]
theorem tg{l:LT}{i:Nat}(h:i<l.length):aX l i=l[i]:=by simp[aX,h]
theorem Gq{l:LT}{i j:Nat}(hi:i<l.length)(q:j<l.length):(swp l i j).Perm l:=by
 grind[swp,tg,List.set_set_perm]
theorem qf{l:LT}{i j k:Nat}(hi:i<l.length)(q:j<l.length):aX (swp l i j) k=if k=j then aX l i else if k=i then aX l j else aX l k:=by
 simp only[aX,swp,aeS,List.getElem?_set,List.length_set]
 grind
def nB(l:LT):Prop:=∀i,0<i->i<l.length->gS (aX l i) (aX l ((i-1) / 2))=false
def p8:Nat->LT->Nat->LT
 |0,l,_=>l
 |n+1,l,k=>if k=0 then l else if gS (aX l k) (aX l ((k-1) / 2))then p8 n (swp l k ((k-1) / 2)) ((k-1) / 2)else l
theorem sc:∀(n:Nat)(l:LT)(k:Nat),k<l.length->(p8 n l k).Perm l
 |0,l,k,_=> .refl _
 |n+1,l,k,h=>by
  rw[p8]
  split
  ·exact .refl _
  ·split
   ·exact(sc n _ _ (by rw[js];omega)).trans (Gq h zd)
   ·exact .refl _
structure V5(l:LT)(k:Nat):Prop where
 lt:k<l.length
 all:∀i,0<i->i<l.length->i≠k->gS (aX l i) (aX l ((i-1) / 2))=false
 up:∀i,0<i->i<l.length->(i-1) / 2=k->0<k->gS (aX l i) (aX l ((k-1) / 2))=false
theorem Gb:∀(n:Nat)(l:LT)(k:Nat),k<=n->V5 l k->nB (p8 n l k)
 |0,l,k,hn,h=>by
  obtain rfl:k=0:=zd
  exactλi u hi=>h.all i u hi zd
 |n+1,l,k,hn,h=>by
  rw[p8]
  split
  ·rename_i hk;exactλi u hi=>h.all i u hi zd
  ·rename_i hk;have hl:=h.lt
   have A:(k-1) / 2<l.length:=zd
   split
   ·rename_i hlt
    refine Gb n _ _ zd ⟨by grind[js],λi u hi O=>?_,λi u hi Y U=>?_⟩
    ·rw[js]at hi;rw[qf hl A,qf hl A,if_neg O]
     by_cases q:i=k
     ·subst q;rw[if_pos rfl,if_pos rfl];exact jJ hlt
     ·rw[if_neg q]
      by_cases V:(i-1) / 2=(k-1) / 2
      ·rw[if_pos V];have H:=h.all i u hi q
       grind[nX,jJ]
      ·rw[if_neg V]
       by_cases H:(i-1) / 2=k
       ·rw[if_pos H];exact h.up i u hi H zd
       ·rw[if_neg H];exact h.all i u hi q
    ·rw[js]at hi;have W:=h.all ((k-1) / 2) U A zd;rw[qf hl A,qf hl A,if_neg zd,if_neg (show ¬((k-1) / 2-1) / 2=(k-1) / 2 by omega),if_neg (show ¬((k-1) / 2-1) / 2=k by omega)]
     by_cases q:i=k
     ·grind
     ·rw[if_neg q];have H:=h.all i u hi q
      grind[nX]
   ·rename_i hlt;intro i u hi
    by_cases q:i=k
    ·grind
    ·exact h.all i u hi q
def mY(l:LT)(x:fW):LT:=p8 l.length (l++[x]) l.length
theorem Fs{l m:LT}{i:Nat}(h:i<l.length):aX (l++m) i=aX l i:=by
 simp[aX,List.getElem?_append_left h]
theorem jL(l:LT)(x:fW):(mY l x).Perm (l++[x]):=sc _ _ _ zk
theorem QH{l:LT}{x:fW}(h:nB l):nB (mY l x):=by
 refine Gb _ _ _ (Nat.le_refl _) ⟨zk,λi q hi u=>?_,λi q hi H A=>?_⟩
 ·simp only[List.length_append,ae0,List.length_nil]at hi;rw[Fs zd,Fs zd];exact h i q zd
 grind
def eu(l:LT)(k:Nat):Nat:=
 let a:=if 2*k+1<l.length∧gS (aX l (2*k+1)) (aX l k)=true then 2*k+1 else k
 if 2*k+2<l.length∧gS (aX l (2*k+2)) (aX l a)=true then 2*k+2 else a
theorem pP(l:LT)(k:Nat)(O:k<l.length):(eu l k=k∨eu l k=2*k+1∨eu l k=2*k+2)∧eu l k<l.length∧gS (aX l k) (aX l (eu l k))=false∧(eu l k≠k->gS (aX l (eu l k)) (aX l k)=true) ∧
  (∀i,0<i->i<l.length->(i-1) / 2=k->gS (aX l i) (aX l (eu l k))=false):=by
 have key:∀i,0<i->(i-1) / 2=k->i=2*k+1∨i=2*k+2:=λi A h=>zd
 unfold eu
 by_cases u:2*k+1<l.length∧gS (aX l (2*k+1)) (aX l k)=true
 ·simp only[if_pos u]
  by_cases q:2*k+2<l.length∧gS (aX l (2*k+2)) (aX l (2*k+1))=true
  ·rw[if_pos q]
   grind[jJ,lI,ke]
  ·rw[if_neg q];refine⟨.inr (.inl rfl),u.1,jJ u.2,λ_=>u.2,λi A hi H=>?_⟩
   rcases key i A H with rfl|rfl
   ·exact ke _
   grind
 ·simp only[if_neg u]
  by_cases q:2*k+2<l.length∧gS (aX l (2*k+2)) (aX l k)=true
  ·rw[if_pos q];refine⟨.inr (.inr rfl),q.1,jJ q.2,λ_=>q.2,λi A hi H=>?_⟩
   rcases key i A H with rfl|rfl
   ·rw[not_and]at u
    grind[nX,jJ]
   grind[ke]
  ·rw[if_neg q];refine⟨.inl rfl,O,ke _,λh=>absurd rfl h,λi A hi H=>?_⟩
   grind
def nk:Nat->LT->Nat->LT
 |0,l,_=>l
 |n+1,l,k=>if eu l k=k then l else nk n (swp l k (eu l k)) (eu l k)
theorem sh:∀(n:Nat)(l:LT)(k:Nat),k<l.length->(nk n l k).Perm l
 |0,l,k,_=> .refl _
 |n+1,l,k,h=>by
  rw[nk];have q:=pP l k h
  split
  ·exact .refl _
  ·exact(sh n _ _ (by rw[js];exact q.2.1)).trans (Gq h q.2.1)
structure V6(l:LT)(k:Nat):Prop where
 lt:k<l.length
 all:∀i,0<i->i<l.length->(i-1) / 2≠k->gS (aX l i) (aX l ((i-1) / 2))=false
 up:∀i,0<i->i<l.length->(i-1) / 2=k->0<k->gS (aX l i) (aX l ((k-1) / 2))=false
theorem Gl:∀(n:Nat)(l:LT)(k:Nat),l.length<=n+k->V6 l k->nB (nk n l k)
 |0,l,k,hn,h=>by have:=h.lt;omega
 |n+1,l,k,hn,h=>by
  rw[nk];have hl:=h.lt;obtain⟨s1,s2,Y,H,W⟩:=pP l k hl
  split
  ·rename_i he;intro i A hi
   by_cases O:(i-1) / 2=k
   ·grind
   ·exact h.all i A hi O
  ·rename_i hne;have H:=H hne;generalize eu l k=m at s1 s2 Y H W hne⊢
   refine Gl n _ _ (by grind[js]) ⟨by grind[js],λi A hi O=>?_,λi A hi he hm0=>?_⟩
   ·rw[js]at hi;rw[qf hl s2,qf hl s2,if_neg O]
    by_cases V:i=m
    ·grind
    ·rw[if_neg V]
     by_cases u:i=k
     ·rw[if_pos u]
      have q:(i-1) / 2≠k:=zd
      rw[if_neg q];have hu:=h.up m zd s2 zd zd
      grind
     ·rw[if_neg u]
      by_cases q:(i-1) / 2=k
      ·grind
      ·rw[if_neg q];exact h.all i A hi q
   ·rw[js]at hi;rw[qf hl s2,qf hl s2,if_neg (show ¬i=m by omega),if_neg (show ¬i=k by omega)]
    have U:(m-1) / 2=k:=zd
    rw[U,if_neg (show ¬k=m by omega),if_pos rfl]
    have:=h.all i A hi zd
    grind
def ph(l:LT):LT:=nk (l.length-1) ((l.set 0 (aX l (l.length-1))).take (l.length-1)) 0
theorem A6{l:LT}{n i:Nat}(h:i<n):aX (l.take n) i=aX l i:=by
 simp[aX,aeS,List.getElem?_take,h]
theorem Ft{l:LT}{x:fW}{i j:Nat}(h:i≠j):aX (l.set i x) j=aX l j:=by
 simp[aX,aeS,List.getElem?_set_ne h]
theorem FY{l:LT}(h:l.length=1):ph l=[]:=by
 obtain⟨a,rfl⟩:=List.length_eq_one_iff.1 h;simp[ph,nk,eu]
theorem Bo{l:LT}(h:l≠[]):(aX l 0::ph l).Perm l:=by
 cases l with
 |nil=>grind
 |cons a l=>
  by_cases hl:l=[]
  ·subst hl;rw[FY rfl];exact .refl _
  ·have e:((a::l).set 0 (aX (a::l) ((a::l).length-1))).take ((a::l).length-1)=l.getLast hl::l.dropLast:=by
    have A:0<l.length:=List.length_pos_iff.2 hl
    have u:aX (a::l) ((a::l).length-1)=l.getLast hl:=by
     rw[tg zk,List.getLast_eq_getElem]
     grind
    rw[u,List.set_cons_zero];obtain⟨m,H⟩:∃m,l.length=m+1:=⟨l.length-1,zd⟩;simp only[ae0,Nat.add_one_sub_one]
    grind[List.dropLast_eq_take]
   rw[ph,e];have q:aX (a::l) 0=a:=rfl;rw[q];refine .cons a ((sh _ _ 0 zk).trans ?_)
   grind[List.dropLast_concat_getLast,List.perm_append_comm]
theorem KH{l:LT}(h:nB l):nB (ph l):=by
 by_cases hl:l.length<=1
 ·have:ph l=[]:=by
   rcases aei l.length 1 with q|q
   ·have:l=[]:=List.length_eq_zero_iff.1 zd
    subst this;rfl
   grind[FY]
  rw[this];exactλi _ h=>by simp at h
 ·have e:((l.set 0 (aX l (l.length-1))).take (l.length-1)).length=l.length-1:=zk
  refine Gl _ _ 0 (by rw[e];omega) ⟨by rw[e];omega,λi u hi A=>?_,λi u hi O H=>zd⟩;rw[e]at hi;rw[A6 hi,A6 zd,Ft zd,Ft zd];exact h i u zd
theorem ze{l:LT}(h:l≠[]):(ph l).length+1=l.length:=by
 have:=(Bo h).length_eq
 omega
theorem Iz{l:LT}(h:nB l):∀i,i<l.length->gS (aX l i) (aX l 0)=false:=by
 intro i
 induction i using Nat.strongRecOn with
 |_ i ih=>
  intro hi
  by_cases q:i=0
  ·grind[ke]
  ·exact nX (ih ((i-1) / 2) zd zd) (h i zd hi)
theorem IA{l:LT}(h:nB l){x:fW}(q:x∈l):gS x (aX l 0)=false:=by
 obtain⟨i,hi,rfl⟩:=List.getElem_of_mem q
 have:=Iz h i hi
 grind[tg]
end
instance:LawfulBEq ByteArray where
 eq_of_beq h:=(afY _ _).1 h
 rfl:=(afY _ _).2 rfl
section
variable {K:Type} [DecidableEq K]
def bV:List (K×Int)->K->Option Int
 | [],_=>none
 |p::l,k=>if p.1=k then some p.2 else bV l k
def gL:List (K×Int)->K->Int->List (K×Int)
 | [],k,t=>[(k,t)]
 |p::l,k,t=>if p.1=k then(k,t)::l else p::gL l k t
def dV(l:List (K×Int))(k:K)(t:Int):Bool:=match bV l k with
 |some oy=>decide (oy<t)
 |none=>true
def gd(l:List (K×Int))(k:K)(t:Int):List (K×Int):=if dV l k t then gL l k t else l
theorem j6:∀(l:List (K×Int))(k:K)(t:Int)(j:K),bV (gL l k t) j=if k=j then some t else bV l j
 | [],k,t,j=>by grind[gL,bV]
 |p::l,k,t,j=>by
  rw[gL]
  by_cases h:p.1=k
  ·rw[if_pos h,bV,bV]
   grind
  ·rw[if_neg h,bV,bV,j6 l k t j]
   grind
theorem uF:∀(l:List (K×Int))(k:K)(t:Int),(gL l k t).map Prod.fst=if k∈l.map Prod.fst then l.map Prod.fst else l.map Prod.fst++[k]
 | [],k,t=>by simp[gL]
 |p::l,k,t=>by
  rw[gL]
  by_cases h:p.1=k
  ·grind
  ·rw[if_neg h,afZ,uF l k t]
   grind
theorem wU{l:List (K×Int)}(k:K)(t:Int)(h:(l.map Prod.fst).Nodup):((gL l k t).map Prod.fst).Nodup:=by
 grind[uF,List.nodup_append]
theorem S7{l:List (K×Int)}(k:K)(t:Int)(h:(l.map Prod.fst).Nodup):((gd l k t).map Prod.fst).Nodup:=by
 grind[gd,wU]
theorem j5:∀{l:List (K×Int)}{k:K}{t:Int},(l.map Prod.fst).Nodup->(bV l k=some t↔(k,t)∈l)
 | [],k,t,_=>by simp[bV]
 |p::l,k,t,h=>by
  rw[afZ,af0]at h;rw[bV]
  by_cases q:p.1=k
  ·grind
  ·rw[if_neg q,j5 h.2]
   grind
theorem EC(l:List (K×Int))(k:K)(t:Int)(j:K):bV (gd l k t) j=if k=j then some (match bV l k with|some oy=>max oy t|none=>t)else bV l j:=by
 rw[gd,dV]
 by_cases q:k=j
 ·subst q;rw[if_pos rfl]
  cases h:bV l k with
  |none=>simp only[if_true];rw[j6,if_pos rfl]
  |some oy=>
   simp only[decide_eq_true_eq]
   split
   ·rename_i hlt;rw[j6,if_pos rfl];grind
   grind
 ·rw[if_neg q]
  cases h:bV l k with
  |none=>simp only[if_true];rw[j6,if_neg q]
  |some oy=>
   simp only
   split
   ·rw[j6,if_neg q]
   ·rfl
end
structure xA where
 key:ByteArray
 val:Hk
abbrev Rd:=List xA
structure bH where
 bN:ByteArray
 to:ByteArray
 label:ByteArray
 time:Int
 props:Rd
abbrev IR:=List bH
abbrev Nd:=ByteArray×Nat
abbrev T1:=List Nd
abbrev L1:=List (Nd×Int)
def kX(E:IR)(v:ByteArray):IR:=E.filter (λe=>decide (e.bN=v))
theorem ko{E:IR}{v:ByteArray}{e:bH}:e∈kX E v↔e∈E∧e.bN=v:=by simp[kX]
section
variable (st:Nat->ByteArray->Option Nat)
inductive D8(E:IR)(τ:Int)(root:ByteArray):ByteArray->Nat->Prop where
 |one (e:bH) (s:Nat):e∈E->τ<=e.time->e.bN=root->st 0 e.label=some s->D8 E τ root e.to s
 |more (e:bH) (s t:Nat):D8 E τ root e.bN s->e∈E->τ<=e.time->st s e.label=some t->D8 E τ root e.to t
structure DS where
 known:L1
 nodes:T1
 heap:LT
def wN(a:Nd)(time:Int)(S:DS)(e:bH):DS:=match st a.2 e.label with
 |none=>S
 |some t=>if dV S.known (e.to,t) (min time e.time)then⟨gL S.known (e.to,t) (min time e.time),S.nodes++[(e.to,t)],mY S.heap (-(min time e.time),(S.nodes.length:Int))⟩else S
def pk(E:IR)(a:Nd)(time:Int)(S:DS):DS:=(kX E a.1).foldl (wN st a time) S
end
section
variable {st:Nat->ByteArray->Option Nat} {E:IR} {root:ByteArray}
theorem D8.less{τ σ:Int}(h:σ<=τ){v:ByteArray}{s:Nat}(k:D8 st E τ root v s):D8 st E σ root v s:=by
 induction k with
 |one e s u H q A=>exact .one e s u zd q A
 |more e s t _ u H q ih=>exact .more e s t ih u zd q
def Lj(S S':DS):Prop:=∀n τ,bV S.known n=some τ->∃τ',bV S'.known n=some τ'∧τ<=τ'
theorem Lj.refl(S:DS):Lj S S:=λn τ h=>⟨τ,h,Int.le_refl _⟩
theorem Lj.trans{S q S'':DS}(h:Lj S q)(k:Lj q S''):Lj S S'':=λn τ hn=>by
 obtain⟨a,u,O⟩:=h n τ hn;obtain⟨b,H,A⟩:=k n a u
 grind
structure DC(st:Nat->ByteArray->Option Nat)(E:IR)(root:ByteArray)(S:DS)(done:L1):Prop where
 ok:nB S.heap
 nd:(S.known.map Prod.fst).Nodup
 ju:∀n τ,bV S.known n=some τ->D8 st E τ root n.1 n.2
 Y9:∀x∈S.heap,∃(i:Nat)(n:Nd)(τ:Int),x.2=(i:Int)∧S.nodes[i]?=some n∧bV S.known n=some τ∧ -x.1<=τ
 due:∀n τ,bV S.known n=some τ->(n,τ)∈done∨∃i:Nat,(-τ,(i:Int))∈S.heap∧S.nodes[i]?=some n
 YS:∀p∈done,bV S.known p.1=some p.2
 low:∀p∈done,∀x∈S.heap, -x.1<=p.2
theorem EB{S:DS}{n:Nd}{m:Int}(h:dV S.known n m=false):∃τ,bV S.known n=some τ∧m<=τ:=by
 unfold dV at h
 grind
theorem xQ{S:DS}{n:Nd}{m τ:Int}(h:dV S.known n m=true)(k:bV S.known n=some τ):τ<m:=by
 grind[dV]
theorem UG{S:DS}{done:L1}(h:DC st E root S done){a:Nd}{time:Int}{e:bH}(hw:∀t,st a.2 e.label=some t->D8 st E (min time e.time) root e.to t)(hd:∀p∈done,time<=p.2) :
  DC st E root (wN st a time S e) done∧Lj S (wN st a time S e)∧(∀t,st a.2 e.label=some t->∃τ,bV (wN st a time S e).known (e.to,t)=some τ∧min time e.time<=τ) ∧
  (wN st a time S e).nodes.length<=S.nodes.length+1∧(wN st a time S e).heap.length<=S.heap.length+1∧(∃m,(wN st a time S e).nodes=S.nodes++m∧∀n∈m,∃s,n=(e.to,s)∧st a.2 e.label=some s):=by
 unfold wN
 cases hs:st a.2 e.label with
 |none=>exact⟨h,.refl _,λt U=>(by cases U),zk,zk,[],zk,λn hn=>by cases hn⟩
 |some t=>
  simp only;have hwt:=hw t hs;generalize hm:min time e.time=m at *
  cases Y:dV S.known (e.to,t) m with
  |false=>
   simp only[Bool.false_eq_true,if_false];exact⟨h,.refl _,λt' U=>by grind[EB],zd,zd,[],zk,λn hn=>by cases hn⟩
  |true=>
   simp only[if_true]
   have O:∀j,bV (gL S.known (e.to,t) m) j=if(e.to,t)=j then some m else bV S.known j:=j6 _ _ _
   have W:Lj S ⟨gL S.known (e.to,t) m,S.nodes++[(e.to,t)],mY S.heap (-m,(S.nodes.length:Int))⟩:=λn τ hn=>by
    show ∃τ',bV (gL S.known (e.to,t) m) n=some τ'∧τ<=τ';rw[O]
    by_cases q:(e.to,t)=n
    ·rw[if_pos q];rw[<-q]at hn
     have:=xQ Y hn
     grind
    grind
   have u:∀x,x∈mY S.heap (-m,(S.nodes.length:Int))↔x∈S.heap∨x=(-m,(S.nodes.length:Int)):=λx=>by
    grind[jL]
   refine⟨⟨QH h.ok,wU _ _ h.nd,λn τ hn=>?_,λx A=>?_,λn τ hn=>?_,λp V=>?_,λp V x A=>?_⟩,W,λt' U=>?_,zk,?_,[(e.to,t)],rfl,λn hn=>⟨t,by grind,rfl⟩⟩
   ·rw[O]at hn
    by_cases q:(e.to,t)=n
    ·grind
    ·rw[if_neg q]at hn;exact h.ju n τ hn
   ·rcases(u x).1 A with A|rfl
    ·obtain⟨i,n,τ,H,h2,h3,h4⟩:=h.Y9 x A;obtain⟨τ',h5,h6⟩:=W n τ h3
     grind
    ·refine⟨S.nodes.length,(e.to,t),m,rfl,List.getElem?_concat_length,?_,zk⟩
     grind
   ·rw[O]at hn
    by_cases q:(e.to,t)=n
    ·grind
    ·rw[if_neg q]at hn
     rcases h.due n τ hn with H|⟨i,H,h2⟩
     ·exact .inl H
     grind
   ·have H:=h.YS p V;show bV (gL S.known (e.to,t) m) p.1=some p.2
    rw[O,if_neg λq=>?_]
    ·exact H
    ·rw[<-q]at H
     have:=xQ Y H
     grind
   ·rcases(u x).1 A with A|rfl
    ·exact h.low p V x A
    grind
   ·simp_all
   ·have:=(jL S.heap (-m,(S.nodes.length:Int))).length_eq
    grind
theorem ym{a:Nd}{time:Int}{done:L1}(W:∀p∈done,time<=p.2):∀(l:IR)(S:DS),DC st E root S done->(∀e∈l,∀t,st a.2 e.label=some t->D8 st E (min time e.time) root e.to t) ->
  DC st E root (l.foldl (wN st a time) S) done∧Lj S (l.foldl (wN st a time) S)∧(∀e∈l,∀t,st a.2 e.label=some t->∃τ,bV (l.foldl (wN st a time) S).known (e.to,t)=some τ∧min time e.time<=τ) ∧
  (l.foldl (wN st a time) S).nodes.length<=S.nodes.length+l.length∧(l.foldl (wN st a time) S).heap.length<=S.heap.length+l.length∧(∃m,(l.foldl (wN st a time) S).nodes=S.nodes++m∧∀n∈m,∃e∈l,∃s,n=(e.to,s)∧st a.2 e.label=some s)
 | [],S,h,_=>⟨h,Lj.refl S,λe q=>absurd q af1,zk,zk,[],zk,λn hn=>absurd hn af1⟩
 |e::l,S,h,U=>by
  obtain⟨h1,h2,h3,h4,h5,m1,h6,h7⟩:=UG h (a:=a) (time:=time) (e:=e) (U e afg) W;obtain⟨k1,O,k3,k4,k5,m2,k6,k7⟩:=ym W l (wN st a time S e) h1 (λA q=>U A (aeX _ q));simp only[List.foldl_cons,ae0]
  refine⟨k1,h2.trans O,λA q t V=>?_,zd,zd,m1++m2,by rw[k6,h6,List.append_assoc],λn hn=>?_⟩
  ·rcases afO.1 q with rfl|q
   ·obtain⟨τ,u,H⟩:=h3 t V;obtain⟨τ',Y,q4⟩:=O _ _ u;exact⟨τ',Y,zd⟩
   ·exact k3 A q t V
  ·rcases af2.1 hn with hn|hn
   ·obtain⟨s,u,H⟩:=h7 n hn;exact⟨e,afg,s,u,H⟩
   ·obtain⟨A,q,s,u,H⟩:=k7 n hn;exact⟨A,aeX _ q,s,u,H⟩
def N5(st:Nat->ByteArray->Option Nat)(E:IR)(S:DS)(done:L1):Prop:=∀p∈done,∀e∈E,e.bN=p.1.1->∀t,st p.1.2 e.label=some t->∃τ,bV S.known (e.to,t)=some τ∧min p.2 e.time<=τ
theorem N5.keep{S q:DS}{done:L1}(h:N5 st E S done)(k:Lj S q):N5 st E q done:=λp A e O H t u=>by
 obtain⟨τ,U,Y⟩:=h p A e O H t u;obtain⟨τ',W,V⟩:=k _ _ U
 grind
def DS.pop(S:DS):DS:=⟨S.known,S.nodes,ph S.heap⟩
theorem jR{S:DS}(h:S.heap≠[]){x:fW}:x∈S.heap↔x=aX S.heap 0∨x∈S.pop.heap:=by
 have:=(Bo h).mem_iff (a:=x)
 rw[afO]at this;exact this.symm
theorem QD{S:DS}{done:L1}(h:DC st E root S done)(q:S.heap≠[]){i:Nat}{n:Nd}(hi:(aX S.heap 0).2=(i:Int))(hn:S.nodes[i]?=some n)(Y:n∈done.map Prod.fst):DC st E root S.pop done:=by
 obtain⟨⟨n',τd⟩,H,rfl⟩:=List.mem_map.1 Y;refine⟨KH h.ok,h.nd,h.ju,λx A=>h.Y9 x ((jR q).2 (.inr A)),λm τ U=>?_,h.YS,λp H x A=>h.low p H x ((jR q).2 (.inr A))⟩
 rcases h.due m τ U with u|⟨j,u,V⟩
 ·exact .inl u
 ·rcases(jR q).1 u with e|u
  ·left;rw[<-e]at hi
   have O:i=j:=zd
   rw[O,V]at hn;simp only[Option.some.injEq]at hn;subst hn
   have:=h.YS _ H
   have W:bV S.known m=some τ:=U
   grind
  ·exact .inr ⟨j,u,V⟩
theorem Uu{S:DS}{done:L1}(h:DC st E root S done)(H:S.heap≠[]){i:Nat}{n:Nd}(hi:(aX S.heap 0).2=(i:Int))(hn:S.nodes[i]?=some n)(hd:n∉done.map Prod.fst) :
  bV S.known n=some (-(aX S.heap 0).1)∧(∀p∈done, -(aX S.heap 0).1<=p.2)∧DC st E root S.pop (done++[(n, -(aX S.heap 0).1)]):=by
 have u:aX S.heap 0∈S.heap:=(jR H).2 (.inl rfl);have hleast:=λx(O:x∈S.heap)=>IA h.ok O;generalize hx0:aX S.heap 0=V at u hleast hi⊢;obtain⟨j,n',τ,h1,h2,h3,h4⟩:=h.Y9 V u
 have Y:i=j:=zd
 subst Y;rw[hn]at h2;cases h2
 have hle:∀x∈S.heap, -x.1 <= -V.1:=λx O=>by
  have:=hleast x O
  rw[<-Bool.not_eq_true,lI]at this;omega
 have hτ:τ = -V.1:=by
  rcases h.due n τ h3 with q|⟨k,W,q2⟩
  ·grind
  grind
 subst hτ;have U:=λp A=>h.low p A V u
 refine⟨h3,U,KH h.ok,h.nd,h.ju,λx O=>h.Y9 x ((jR H).2 (.inr O)),λm τ hm=>?_,λp A=>?_,λp A x O=>?_⟩
 ·rcases h.due m τ hm with q|⟨k,W,q2⟩
  ·grind
  ·rcases(jR H).1 W with e|W
   ·grind
   ·exact .inr ⟨k,W,q2⟩
 ·rcases af2.1 A with A|A
  ·exact h.YS p A
  ·rw[af3.1 A];exact h3
 grind[jR,af3]
def jA(st:Nat->ByteArray->Option Nat)(E:IR):Nat->DS->T1->L1
 |0,_,_=>[]
 |f+1,S,done=>if S.heap=[]then []else match S.nodes[(aX S.heap 0).2.toNat]? with
  |none=>[]
  |some n=>if n∈done then jA st E f S.pop done else(n, -(aX S.heap 0).1)::jA st E f (pk st E n (-(aX S.heap 0).1) S.pop) (done++[n])
structure DL(st:Nat->ByteArray->Option Nat)(E:IR)(root:ByteArray)(cand:T1)(f:Nat)(S:DS)(done:L1):Prop extends DC st E root S done where
 out:N5 st E S done
 dnd:(done.map Prod.fst).Nodup
 sub:∀n∈S.nodes,n∈cand
 sdn:∀n∈done.map Prod.fst,n∈cand
 fuel:S.heap.length+(cand.length-done.length)*(E.length+1)<=f
 len:S.nodes.length<=(done.length+1)*E.length
theorem Ky{l m:T1}(h:l.Nodup)(q:∀x∈l,x∈m):l.length<=m.length:=by
 induction l generalizing m with
 |nil=>simp
 |cons a l ih=>
  rw[af0]at h;have A:=q a afg
  have:=ih (m:=m.erase a) h.2 λx u=>(List.mem_erase_of_ne (λe=>by grind)).2 (q x (aeX _ u))
  grind
theorem xh(E:IR)(v:ByteArray):(kX E v).length<=E.length:=List.length_filter_le _ _
theorem DL.next{cand:T1}{f:Nat}{S:DS}{done:L1}(hc:∀e∈E,∀s t,st s e.label=some t->(e.to,t)∈cand)(h:DL st E root cand f S done)(q:S.heap≠[]):∃(i:Nat)(n:Nd)(f':Nat),f=f'+1∧(aX S.heap 0).2=(i:Int)∧S.nodes[i]?=some n ∧
  (n∈done.map Prod.fst->DL st E root cand f' S.pop done)∧(n∉done.map Prod.fst->DL st E root cand f' (pk st E n (-(aX S.heap 0).1) S.pop) (done++[(n, -(aX S.heap 0).1)])∧Lj S (pk st E n (-(aX S.heap 0).1) S.pop)):=by
 have O:aX S.heap 0∈S.heap:=(jR q).2 (.inl rfl);obtain⟨i,n,τ,h1,h2,h3,h4⟩:=h.Y9 _ O;have hpl:=ze q;have hfu:=h.fuel;have hpos:0<S.heap.length:=List.length_pos_iff.2 q
 refine⟨i,n,f-1,zd,h1,h2,λhd=>?_,λhd=>?_⟩
 ·refine⟨QD h.toDC q h1 h2 hd,h.out,h.dnd,h.sub,h.sdn,?_,h.len⟩;show(ph S.heap).length+_<=_;omega
 ·obtain⟨p1,p2,p3⟩:=Uu h.toDC q h1 h2 hd;have hwn:=h.ju n _ p1;generalize hτ: -(aX S.heap 0).1=σ at *;have hnc:n∈cand:=h.sub n (List.mem_of_getElem? h2)
  have W:(done++[(n,σ)]).map Prod.fst=done.map Prod.fst++[n]:=zk
  have V:((done++[(n,σ)]).map Prod.fst).Nodup:=by
   rw[W,List.nodup_append];exact⟨h.dnd,zk,λa ha b hb e=>hd (by grind)⟩
  have H:∀m∈(done++[(n,σ)]).map Prod.fst,m∈cand:=λm U=>by
   rw[W]at U
   rcases af2.1 U with U|U
   ·exact h.sdn m U
   grind
  have hlen:=Ky V H;simp only[List.length_map,aem,ae0,aeg]at hlen
  have hle:∀p∈done++[(n,σ)],σ<=p.2:=λp u=>by
   grind
  obtain⟨k1,k2,k3,k4,k5,m,k6,k7⟩:=ym (st:=st) (E:=E) (root:=root) (a:=n) (time:=σ) hle (kX E n.1) S.pop p3 (λe he t Y=>by
   obtain⟨e1,e2⟩:=ko.1 he
   have e3:D8 st E (min σ e.time) root e.bN n.2:=by rw[e2];exact hwn.less zd
   exact .more e n.2 t e3 e1 zd Y)
  have hol:=xh E n.1
  refine⟨⟨k1,λp u e he hf t Y=>?_,V,λx A=>?_,H,?_,?_⟩,λa b c=>k2 a b c⟩
  ·rcases af2.1 u with u|u
   ·exact(N5.keep (S:=S) h.out (λa b c=>k2 a b c)) p u e he hf t Y
   ·obtain rfl:=af3.1 u;exact k3 e (ko.2 ⟨he,hf⟩) t Y
  ·rw[pk,k6]at A
   rcases af2.1 A with A|A
   ·exact h.sub x A
   grind[ko]
  ·have e1:(pk st E n σ S.pop).heap.length<=(ph S.heap).length+E.length:=by
    have:(pk st E n σ S.pop).heap.length<=(ph S.heap).length+(kX E n.1).length:=k5
    omega
   simp only[aem,ae0,aeg]
   have e2:cand.length-done.length=(cand.length-(done.length+1))+1:=zd
   rw[e2,Nat.add_mul,Nat.one_mul]at hfu
   grind
  ·have e1:(pk st E n σ S.pop).nodes.length<=S.nodes.length+(kX E n.1).length:=k4;have e2:=h.len;simp only[aem,ae0,aeg,Nat.zero_add]
   grind
theorem xZ(f:Nat){S:DS}(done:T1)(h:S.heap=[]):jA st E f S done=[]:=by
 cases f<;>simp[jA,h]
theorem AF{f i:Nat}{S:DS}{done:T1}{n:Nd}(h:S.heap≠[])(hi:(aX S.heap 0).2=(i:Int))(hn:S.nodes[i]?=some n)(q:n∈done):jA st E (f+1) S done=jA st E f S.pop done:=by
 rw[jA,if_neg h,hi,Int.toNat_natCast,hn];simp[q]
theorem AE{f i:Nat}{S:DS}{done:T1}{n:Nd}(h:S.heap≠[])(hi:(aX S.heap 0).2=(i:Int))(hn:S.nodes[i]?=some n)(q:n∉done):jA st E (f+1) S done=(n, -(aX S.heap 0).1)::jA st E f (pk st E n (-(aX S.heap 0).1) S.pop) (done++[n]):=by
 rw[jA,if_neg h,hi,Int.toNat_natCast,hn];simp[q]
structure rm(st:Nat->ByteArray->Option Nat)(E:IR)(root:ByteArray)(Y:L1):Prop where
 nd:(Y.map Prod.fst).Nodup
 ju:∀p∈Y,D8 st E p.2 root p.1.1 p.1.2
 all:∀τ v s,D8 st E τ root v s->∃σ,((v,s),σ)∈Y∧τ<=σ
def An(st:Nat->ByteArray->Option Nat)(E:IR)(root:ByteArray)(S:DS):Prop:=∀e∈E,e.bN=root->∀t,st 0 e.label=some t->∃τ,bV S.known (e.to,t)=some τ∧e.time<=τ
theorem An.keep{S q:DS}(h:An st E root S)(k:Lj S q):An st E root q:=λe H A t u=>by
 obtain⟨τ,O,W⟩:=h e H A t u;obtain⟨τ',V,U⟩:=k _ _ O
 grind
theorem DL.fin{cand:T1}{f:Nat}{S:DS}{done:L1}(h:DL st E root cand f S done)(W:An st E root S)(U:S.heap=[]):rm st E root done:=by
 have u:∀n τ,bV S.known n=some τ->(n,τ)∈done:=λn τ hn=>by
  rcases h.due n τ hn with q|⟨i,q,_⟩
  ·exact q
  grind
 refine⟨h.dnd,λp Y=>h.ju p.1 p.2 (h.YS p Y),fun τ v s hR=>?_⟩
 have key:∃σ,bV S.known (v,s)=some σ∧τ<=σ:=by
  induction hR with
  |one e s H h2 A h4=>
   obtain⟨σ,O,V⟩:=W e H A s h4
   grind
  |more e s t _ H h2 A ih=>
   obtain⟨σ,O,V⟩:=ih;obtain⟨σ',q3,q4⟩:=h.out _ (u _ _ O) e H rfl t A
   grind
 grind
theorem uH{cand:T1}(H:∀e∈E,∀s t,st s e.label=some t->(e.to,t)∈cand):∀(f:Nat)(S:DS)(done:L1),DL st E root cand f S done->An st E root S->rm st E root (done++jA st E f S (done.map Prod.fst))
 |f,S,done,h,A=>by
  by_cases q:S.heap=[]
  ·rw[xZ f _ q,List.append_nil];exact h.fin A q
  ·obtain⟨i,n,f',rfl,U,O,h3,Y⟩:=h.next H q
   by_cases u:n∈done.map Prod.fst
   ·rw[AF q U O u];exact uH H f' S.pop done (h3 u) A
   ·rw[AE q U O u];obtain⟨W,V⟩:=Y u
    have:=uH H f' _ _ W (A.keep V)
    simpa using this
end
abbrev K2:=ByteArray×ByteArray
abbrev So:=List K2
def pq(a b:K2):Prop:=a.1.data.toList<b.1.data.toList∨a.1=b.1∧a.2.data.toList<b.2.data.toList
instance (a b:K2):Decidable (pq a b):=inferInstanceAs (Decidable (_∨_))
theorem AA{a b:ByteArray}(h:a.data.toList=b.data.toList):a=b:=by
 obtain⟨⟨a⟩⟩:=a;simp_all
theorem lu(a b:ByteArray):a.data.toList<b.data.toList∨a=b∨b.data.toList<a.data.toList:=by
 grind[AA,List.le_antisymm,List.not_lt]
theorem ek(a:K2): ¬pq a a:=λh=>by
 rcases h with h|⟨_,h⟩<;>exact af4 _ h
theorem iI{a b c:K2}(h:pq a b)(k:pq b c):pq a c:=by
 rcases h with h|⟨A,H⟩
 ·rcases k with k|⟨q,u⟩
  ·exact .inl (af5 h k)
  ·rw[q]at h;exact .inl h
 ·rcases k with k|⟨q,u⟩
  ·rw[<-A]at k;exact .inl k
  ·exact .inr ⟨A.trans q,af5 H u⟩
theorem nQ(a b:K2):pq a b∨a=b∨pq b a:=by
 rcases lu a.1 b.1 with h|h|h
 ·exact .inl (.inl h)
 ·rcases lu a.2 b.2 with k|k|k
  ·exact .inl (.inr ⟨h,k⟩)
  ·grind
  ·exact .inr (.inr (.inr ⟨h.symm,k⟩))
 ·exact .inr (.inr (.inl h))
abbrev PL:=List (K2×Int)
def ew(l:PL):Prop:=l.Pairwise (λa b=>pq a.1 b.1)
def IE(p:K2×Int):PL->PL
 | []=>[p]
 |q::l=>if pq p.1 q.1 then p::q::l else q::IE p l
def cz(b:PL):PL:=b.foldr IE []
theorem uZ(p:K2×Int):∀l:PL,(IE p l).Perm (p::l)
 | []=> .refl _
 |q::l=>by
  rw[IE]
  split
  ·exact .refl _
  ·exact((uZ p l).cons q).trans (.swap p q l)
theorem cL:∀b:PL,(cz b).Perm b
 | []=> .refl _
 |p::b=>(uZ p _).trans ((cL b).cons p)
theorem A0{p:K2×Int}:∀{l:PL},ew l->(∀q∈l,q.1≠p.1)->ew (IE p l)
 | [],_,_=>by simp[IE,ew]
 |q::l,h,H=>by
  rw[ew,af6]at h;rw[IE]
  split
  ·rename_i A;rw[ew,af6,af6];refine⟨λr u=>?_,h.1,h.2⟩
   rcases afO.1 u with rfl|u
   ·exact A
   ·exact iI A (h.1 r u)
  ·rename_i A
   have O:pq q.1 p.1:=by
    rcases nQ q.1 p.1 with a|a|a
    ·exact a
    ·exact absurd a (H q afg)
    ·exact absurd a A
   rw[ew,af6];refine⟨λr u=>?_,A0 h.2 λr u=>H r (aeX _ u)⟩
   rcases afO.1 ((uZ p l).mem_iff.1 u)with rfl|u
   ·exact O
   ·exact h.1 r u
theorem lU:∀{b:PL},(b.map Prod.fst).Nodup->ew (cz b)
 | [],_=>List.Pairwise.nil
 |p::b,h=>by
  rw[afZ,af0]at h;refine A0 (lU h.2) λq u e=>h.1 ?_;rw[<-e];exact List.mem_map_of_mem ((cL b).mem_iff.1 u)
theorem Nb{l:PL}(h:ew l){k:K2}{s t:Int}(q:(k,s)∈l)(u:(k,t)∈l):s=t:=by
 induction l with
 |nil=>cases q
 |cons a l ih=>
  grind[ew,af6,absurd,ek]
theorem oK:∀{l m:PL},ew l->ew m->(∀p,p∈l↔p∈m)->l=m
 | [],[],_,_,_=>rfl
 | [],b::m,_,_,h=>absurd ((h b).2 zk) zk
 |a::l,[],_,_,h=>absurd ((h a).1 zk) zk
 |a::l,b::m,A,u,h=>by
  rw[ew,af6]at A u
  have q:a=b:=by
   grind[iI,ek]
  subst q
  refine congrArg _ (oK A.2 u.2 λs=>⟨λH=>?_,λH=>?_⟩)
  ·grind[aeX,ek]
  grind[aeX,ek]
section
variable {K:Type} [DecidableEq K]
def fH(l:List (K×Int))(b:List (K×Int)):List (K×Int):=l.foldl (λb p=>gd b p.1 p.2) b
theorem qD(l m b:List (K×Int)):fH (l++m) b=fH m (fH l b):=List.foldl_append
theorem jo:∀(l b:List (K×Int)),(b.map Prod.fst).Nodup->((fH l b).map Prod.fst).Nodup∧(∀k σ,bV (fH l b) k=some σ->bV b k=some σ∨(k,σ)∈l)∧(∀p∈l,∃σ,bV (fH l b) p.1=some σ∧p.2<=σ)∧(∀k τ,bV b k=some τ->∃σ,bV (fH l b) k=some σ∧τ<=σ)
 | [],b,h=>⟨h,λk σ h=> .inl h,λp u=>absurd u af1,λk τ h=>⟨τ,h,Int.le_refl _⟩⟩
 |p::l,b,h=>by
  obtain⟨V,U,O,H⟩:=jo l (gd b p.1 p.2) (S7 _ _ h);have A:=EC b p.1 p.2;show((fH l (gd b p.1 p.2)).map Prod.fst).Nodup∧(∀k σ,bV (fH l (gd b p.1 p.2)) k=some σ->_)∧(∀q∈p::l,∃σ,bV (fH l (gd b p.1 p.2)) q.1=some σ∧q.2<=σ)∧(∀k τ,bV b k=some τ->∃σ,bV (fH l (gd b p.1 p.2)) k=some σ∧τ<=σ)
  grind
end
def Ay:Int:=1099511627776
def iS(E:IR):PL:=E.flatMap (λe=>[((e.bN,e.bN),e.time),((e.to,e.to),e.time)])
def vE(E:IR):PL:=fH (iS E) []
def aJ(E:IR):PL:=cz (vE E)
theorem Jy(E:IR):ew (aJ E):=lU (jo _ [] ae1).1
theorem zJ{E:IR}{k:K2}{τ:Int}:(k,τ)∈aJ E↔bV (vE E) k=some τ:=by
 have h:((vE E).map Prod.fst).Nodup:=(jo _ [] ae1).1
 grind[aJ,cL,j5]
theorem vB{E:IR}{k:K2}{τ:Int}:(k,τ)∈iS E ↔ ∃e∈E,(k=(e.bN,e.bN)∨k=(e.to,e.to))∧τ=e.time:=by
 simp only[iS,afP,afO,af1,or_false,Prod.mk.injEq]
 grind
theorem GI{E:IR}{k:K2}{τ:Int}(h:(k,τ)∈aJ E):∃e∈E,(k=(e.bN,e.bN)∨k=(e.to,e.to))∧τ=e.time:=by
 rcases(jo (iS E) [] ae1).2.1 k τ (zJ.1 h)with q|q
 ·cases q
 grind[vB]
theorem GH{E:IR}{e:bH}(q:e∈E):(∃τ,((e.bN,e.bN),τ)∈aJ E∧e.time<=τ)∧∃τ,((e.to,e.to),τ)∈aJ E∧e.time<=τ:=by
 have h:=(jo (iS E) [] ae1).2.2.1;obtain⟨σ,O,H⟩:=h ((e.bN,e.bN),e.time) (vB.2 ⟨e,q,.inl rfl,rfl⟩);obtain⟨ρ,A,u⟩:=h ((e.to,e.to),e.time) (vB.2 ⟨e,q,.inr rfl,rfl⟩);exact⟨⟨σ,zJ.2 O,H⟩,ρ,zJ.2 A,u⟩
section
variable (st:Nat->ByteArray->Option Nat) (tk:Nat->Bool) (em:Bool) (n:Nat)
def jz(E:IR):T1:=E.flatMap (λe=>(List.range n).map (λs=>(e.to,s)))
def OT(E:IR)(root:ByteArray):DS:=pk st E (root,0) Ay ⟨[],[],[]⟩
def YR(E:IR)(root:ByteArray):Nat:=(OT st E root).heap.length+(jz n E).length*(E.length+1)
def zY(E:IR)(root:ByteArray):L1:=jA st E (YR st n E root) (OT st E root) []
def fB(D:L1)(v:K2×Int):PL:=(if em then [((v.1.1,v.1.1),v.2)]else [])++D.filterMap (λp=>if tk p.1.2 then some ((v.1.1,p.1.1),p.2)else none)
def v8(E:IR)(v:K2×Int):PL:=fB tk em (zY st n E v.1.1) v
def pY(E:IR):PL:=cz (fH ((aJ E).flatMap (v8 st tk em n E)) [])
def PT(E:IR)(f t:ByteArray)(τ:Int):Prop:=(em=true∧f=t∧∃e∈E,(e.bN=f∨e.to=f)∧τ<=e.time)∨∃s,tk s=true∧D8 st E τ f t s
structure Al(E:IR)(L:PL):Prop where
 qT:ew L
 ju:∀p∈L,PT st tk em E p.1.1 p.1.2 p.2
 all:∀f t τ,PT st tk em E f t τ->∃σ,((f,t),σ)∈L∧τ<=σ
end
section
variable {st:Nat->ByteArray->Option Nat} {tk:Nat->Bool} {em:Bool} {n:Nat}
theorem j7{E:IR}(q:∀s l t,st s l=some t->t<n):∀e∈E,∀s t,st s e.label=some t->(e.to,t)∈jz n E:=λe u s t h=>by
 simp only[jz,afP,List.mem_map,List.mem_range]
 grind
theorem qs(E:IR):(jz n E).length=E.length*n:=by
 induction E with
 |nil=>simp[jz]
 |cons e E ih=>
  grind[jz,aem,List.length_map,List.length_range,ae0,Nat.add_mul]
theorem J9{E:IR}(H:∀s l t,st s l=some t->t<n)(hb:∀e∈E,e.time<=Ay)(root:ByteArray):DL st E root (jz n E) (YR st n E root) (OT st E root) []∧An st E root (OT st E root):=by
 have h0:DC st E root ⟨[],[],[]⟩ []:=⟨λi _ h=>(by simp at h),ae1,λn τ h=>(by cases h),λx h=>(by cases h),λn τ h=>(by cases h),λp h=>(by cases h),λp h=>(by cases h)⟩
 obtain⟨k1,k2,Y,O,k5,m,u,W⟩:=ym (st:=st) (E:=E) (root:=root) (a:=(root,0)) (time:=Ay) (done:=[]) (λp h=>(by cases h)) (kX E root) _ h0 (λe q t A=>by
  obtain⟨e1,e2⟩:=ko.1 q
  exact .one e t e1 zd e2 A)
 have hl:=xh E root
 refine⟨⟨k1,λp h=>(by cases h),ae1,λx U=>?_,λn h=>(by cases h),?_,?_⟩,λe q hf t A=>?_⟩
 ·have u:(OT st E root).nodes=[]++m:=u;rw[u,List.nil_append]at U;obtain⟨e,q,s,rfl,hs⟩:=W x U;exact j7 H e (ko.1 q).1 0 s hs
 ·simp only[aeg,Nat.sub_zero];exact Nat.le_refl _
 ·have O:(OT st E root).nodes.length<=0+(kX E root).length:=O
  grind
 ·obtain⟨τ,V,q2⟩:=Y e (ko.2 ⟨q,hf⟩) t A
  have:=hb e q
  exact⟨τ,V,zd⟩
theorem Cu{E:IR}(q:∀s l t,st s l=some t->t<n)(u:∀e∈E,e.time<=Ay)(root:ByteArray):rm st E root (zY st n E root):=by
 obtain⟨H,A⟩:=J9 q u root
 have:=uH (j7 q) _ _ [] H A
 grind[zY]
theorem QU{E:IR}{τ:Int}{root v:ByteArray}{s:Nat}(h:D8 st E τ root v s):∃e∈E,e.bN=root:=by
 induction h with
 |one e s H A u q=>grind
 |more e s t _ _ _ _ ih=>exact ih
theorem sa{D:L1}{v:K2×Int}{k:K2}{τ:Int}:(k,τ)∈fB tk em D v↔(em=true∧k=(v.1.1,v.1.1)∧τ=v.2)∨∃p∈D,tk p.1.2=true∧k=(v.1.1,p.1.1)∧τ=p.2:=by
 rw[fB,af2,List.mem_filterMap]
 grind
theorem wa{E:IR}{dl:ByteArray->L1}(Y:∀root,rm st E root (dl root)):Al st tk em E (cz (fH ((aJ E).flatMap (λv=>fB tk em (dl v.1.1) v)) [])):=by
 have W:=jo ((aJ E).flatMap (λv=>fB tk em (dl v.1.1) v)) [] ae1
 have u:∀k τ,(k,τ)∈cz (fH ((aJ E).flatMap (λv=>fB tk em (dl v.1.1) v)) [])↔bV (fH ((aJ E).flatMap (λv=>fB tk em (dl v.1.1) v)) []) k=some τ:=λk τ=>by
  grind[cL,j5]
 generalize hL:cz (fH ((aJ E).flatMap (λv=>fB tk em (dl v.1.1) v)) [])=L at *
 have H:∀v∈aJ E,∀k τ,(k,τ)∈fB tk em (dl v.1.1) v->∃σ,(k,σ)∈L∧τ<=σ:=λv V k τ hk=>by
  grind
 refine⟨hL ▸ lU W.1,λp A=>?_,λf t τ h=>?_⟩
 ·obtain⟨k,τ⟩:=p
  rcases W.2.1 k τ ((u k τ).1 A)with q|q
  ·cases q
  ·obtain⟨⟨kv,τv⟩,V,q⟩:=afP.1 q
   rcases sa.1 q with⟨U,h2,h3⟩|⟨p,U,h2,h3,h4⟩
   ·obtain⟨e,O,h5,h6⟩:=GI V;left
    grind
   ·right
    have:=(Y kv.1).ju p U
    grind
 ·rcases h with⟨U,rfl,e,O,h2,h3⟩|⟨s,hs,hR⟩
  ·grind[GH,sa]
  ·obtain⟨e,O,rfl⟩:=QU hR;obtain⟨⟨a,a1,a2⟩,_⟩:=GH O;obtain⟨σ,q1,q2⟩:=(Y e.bN).all τ t s hR;obtain⟨ρ,q3,q4⟩:=H _ a1 (e.bN,t) σ (sa.2 (.inr ⟨_,q1,hs,rfl,rfl⟩))
   grind
theorem I5{E:IR}(q:∀s l t,st s l=some t->t<n)(u:∀e∈E,e.time<=Ay):Al st tk em E (pY st tk em n E):=wa (λroot=>Cu q u root)
theorem Np{E:IR}{L M:PL}(q:Al st tk em E L)(u:Al st tk em E M):L=M:=by
 have key:∀{L M:PL},Al st tk em E L->Al st tk em E M->∀p,p∈L->p∈M:=λq u p A=>by
  obtain⟨σ,O,W⟩:=u.all _ _ _ (q.ju p A);obtain⟨ρ,H,V⟩:=q.all _ _ _ (u.ju _ O);have U:=Nb q.qT A H
  grind
 exact oK q.qT u.qT λp=>⟨key q u p,key u q p⟩
end
def Ku(a b:ByteArray):Bool:=Op.bytesLess a.toList b.toList
theorem cP{a b:ByteArray}:Ku a b=true↔a.data.toList<b.data.toList:=by
 rw[Ku,bytesLess_eq,decide_eq_true_eq,ByteArray.toList_eq,ByteArray.toList_eq]
def wL:ByteArray->Rd->Bool
 |_,[]=>true
 |last,p::l=>if Ku p.key last||p.key.toList==last.toList then false else cB p.key&&bo p.val&&wL p.key l
def Bp(l:Rd):Bool:=wL ⟨#[]⟩ l&&decide (l.length<=8)
def nR(e:bH):Int:=if fV e.bN&&fV e.to&&cB e.label&&Bp e.props then(if 0<=e.time∧e.time<=Ay then 0 else 6)else 2
def e9:IR->Int
 | []=>0
 |e::l=>if nR e≠0 then nR e else e9 l
theorem ER{E:IR}{k:Nat}(h:k<E.length):e9 (E.drop k)=if nR E[k]≠0 then nR E[k]else e9 (E.drop (k+1)):=by
 rw[List.drop_eq_getElem_cons h,e9]
theorem uI:∀{E:IR},e9 E=0->∀e∈E,nR e=0
 | [],_,e,q=>by cases q
 |a::l,h,e,q=>by
  rw[e9]at h
  split at h
  ·rename_i hn;exact absurd h hn
  ·rename_i hn
   rcases afO.1 q with rfl|q
   ·exact Classical.not_not.1 hn
   ·exact uI h e q
theorem AG{e:bH}(h:nR e=0):0<=e.time∧e.time<=Ay:=by
 unfold nR at h
 split at h
 ·split at h
  ·assumption
  ·cases h
 ·cases h
def wq(a b:Int):Int:=if a<b then -1 else if b<a then 1 else 0
def mB(a b:ByteArray):Int:=if Ku a b then -1 else if Ku b a then 1 else 0
def I0(a b:Int):Int:=if a≠0 then a else b
def Y8(a b:fW):Int:=I0 (wq a.1 b.1) (wq a.2 b.2)
theorem IF(a b:fW):decide (Y8 a b<0)=gS a b:=by
 rw[af7,decide_eq_true_eq,lI,Y8,I0];unfold wq
 split<;>split<;>(try split)<;>(try split)<;>(try split)<;>omega
theorem Wt(a b:fW):decide (0<=Y8 a b) = !gS a b:=by
 rw[<-IF,af7];simp
theorem T0(a b:ByteArray):(!(Ku a b||a.toList==b.toList))=Ku b a:=by
 rw[af7];simp only[Bool.not_eq_true',Bool.or_eq_false_iff,beq_eq_false_iff_ne,ne_eq]
 constructor
 ·rintro⟨u,A⟩
  rcases lu a b with h|h|h
  ·rw[cP.2 h]at u;cases u
  ·exact absurd (by rw[h]) A
  ·exact cP.2 h
 ·intro h;have q:=cP.1 h
  refine⟨?_,λe=>?_⟩
  ·rw[<-Bool.not_eq_true,cP];exactλk=>af4 _ (af5 q k)
  ·have:a=b:=by
    rw[ByteArray.toList_eq,ByteArray.toList_eq]at e;exact AA e
   rw[this]at q;exact af4 _ q
theorem Qh(a:Int):aj prog 202 [.v (.int .i64 a)] (.v (.bool false)):=by
 refine gE func202 ntmps202 results202 ?_
 repeat(first|(with_reducible first|refine bA.up ?_|refineλ(K:AK)hK=>?_|(refine hK _ ?_;clear hK K))|simp only[go_sem,bne_self_eq_false]|clear hK K)
theorem OJ(a b:Int):aj prog 162 [.v (.int .i64 a),.v (.int .i64 b)] (.v (.int .i64 (wq a b))):=by
 have V:=Qh a;have U:=Qh b
 by_cases q:a<b
 ·have H:decide (a<b)=true:=decide_eq_true q
  have u:wq a b = -1:=by rw[wq,if_pos q]
  rw[u];refine gE func162 ntmps162 results162 ?_
  (refine ag ?_;intro K hK K hK)
  (revert K;revert K;refine aM V ?_;intro K hK K hK)
  (revert K;revert K;exact Pm U H)
 ·have H:decide (a<b)=false:=decide_eq_false q
  by_cases A:b<a
  ·have O:decide (b<a)=true:=decide_eq_true A
   have u:wq a b=1:=by rw[wq,if_neg q,if_pos A]
   rw[u];refine gE func162 ntmps162 results162 ?_
   (refine ag ?_;intro K hK K hK)
   (revert K;revert K;refine aM V ?_;intro K hK K hK)
   (revert K;revert K;exact CH U H O)
  ·have O:decide (b<a)=false:=decide_eq_false A
   have u:wq a b=0:=by rw[wq,if_neg q,if_neg A]
   rw[u];refine gE func162 ntmps162 results162 ?_
   (refine ag ?_;intro K hK K hK)
   (revert K;revert K;refine aM V ?_;intro K hK K hK)
   (revert K;revert K;exact CH U H O)
theorem Tf(a b:Int):aj prog 61 [.aA 1 [[.v (.int .i64 a)],[.v (.int .i64 b)]] 2] (.v (.int .i64 (I0 a b))):=by
 refine gE func61 ntmps61 results61 ?_
 (refine ag ?_;intro K hK)
 have d0:decide (((0:Nat):Int)<((2:Nat):Int))=true:=zs
 have d1:decide (((1:Nat):Int)<((2:Nat):Int))=true:=zs
 have d2:decide (((2:Nat):Int)<((2:Nat):Int))=false:=zs
 have w0:=ae (k:=0) zd;have O:=ae (k:=1) zd
 refine aZ (ι:=Nat) 9 (λi=>[(5,.undef),(8,.v (.int .i64 i))]) (λi=>2-i) (λi=>i<=2∧(0<i->a=0)∧(1<i->b=0)) 0 ⟨zd,zd,zd⟩ ?_ ?_
 ·refine ab (bF ?_) ar ar
  all_goals first|rfl
 ·rintro i ⟨hi,H,U⟩ K hK
  match i,hi with
  |0,_=>
   by_cases h:a=0
   ·have q:(a !=0)=false:=by simp[h]
    (revert K;revert K;refine ak (mQ q d0 w0) ?_)
    exact aw.mk 1 ⟨zd,λ_=>h,zd⟩ zd (by exact ab ar ar ar)
   ·have q:(a !=0)=true:=by simpa using h
    have u:I0 a b=a:=by rw[I0,if_pos h]
    (revert K;revert K;refine fb q d0 ?_)
    rw[u]
  |1,_=>
   have A:=H zd
   by_cases h:b=0
   ·have q:(b !=0)=false:=by simp[h]
    (revert K;revert K;refine ak (mQ q d1 O) ?_)
    exact aw.mk 2 ⟨zd,λ_=>A,λ_=>h⟩ zd (by exact ab ar ar ar)
   ·have q:(b !=0)=true:=by simpa using h
    have u:I0 a b=b:=by rw[I0,if_neg (by simp[A])]
    (revert K;revert K;refine fb q d1 ?_)
    rw[u]
  |2,_=>
   have A:=H zd;have V:=U zd
   have u:I0 a b=0:=by rw[I0,if_neg (by simp[A]),V]
   (revert K;revert K;refine ak d2 ?_)
   rw[u]
  |i+3,h=>omega
def bf(x:fW):C5:=[.v (.int .i64 x.1),.v (.int .i64 x.2)]
theorem Du(a b:fW):aj prog 131 [.agg (bf a),.agg (bf b)] (.v (.int .i64 (Y8 a b))):=by
 have A:=OJ a.1 b.1;have u:=OJ a.2 b.2;have q:=Tf (wq a.1 b.1) (wq a.2 b.2);rw[Y8];simp only[bf];refine gE func131 ntmps131 results131 ?_
 (refine bc ?_;intro K hK K hK)
 (revert K;revert K;refine kE A ?_;intro K hK K hK)
 (revert K;revert K;refine kE u ?_;intro K hK K hK)
 (revert K;revert K;exact Pl q)
 trace_state
def bJ(k:K2):C5:=[.v (.string k.1),.v (.string k.2)]
def eC(a b:K2):Int:=I0 (mB a.1 b.1) (mB a.2 b.2)
section
variable {P:Program} {ops:Array Oper}
def iZ:GE->GE
 | []=>[]
 |o::l=>o::l.map (λp=>{p with after:=p.after.push ⟨0,.data⟩})
theorem yb(l:GE):(iZ l).length=l.length:=by cases l<;>simp[iZ]
theorem sU(l:GE)(i:Nat):(iZ l)[i]?=(l[i]?).map (λp=>if i=0 then p else{p with after:=p.after.push ⟨0,.data⟩}):=by
 cases l with
 |nil=>simp[iZ]
 |cons o l=>
  cases i with
  |zero=>simp[iZ]
  |succ i=>simp[iZ]
theorem Ih(l:GE)(t:Array Value):yielded (iZ l).toArray t=yielded l.toArray t:=by
 funext j
 simp only[yielded,aet,sU]
 cases l[j]? with
 |none=>rfl
 |some o=>by_cases h:j=0<;>simp only[aeE,Option.bind_some,h,if_true,if_false]
theorem To{F:Fence}{n:Nat}{Q:Exit->Act->World->Prop}{l:GE}{i:Nat}{K:Act->World->Prop}{a:Act}{w:World}(h:wpOpIn F n P (iZ l).toArray Q i K a w):wpOpIn F n P l.toArray Q i K a w:=by
 unfold wpOpIn at h⊢;simp only[aet,sU,Ih]at h⊢
 cases q:l[i]? with
 |none=>simpa [q]using h
 |some o=>
  simp only[q,aeE]at h⊢
  split at h<;>exact h
theorem Ka{F:Fence}{n:Nat}{Q:Exit->Act->World->Prop}{l:GE}{ops:Array Oper}{E:Act->World->Prop}:∀(fuel:Nat)(listed:Array Bool)(a:Act)(w:World),qP (wpOpIn F n P (iZ l).toArray Q) ops E fuel listed a w->qP (wpOpIn F n P l.toArray Q) ops E fuel listed a w
 |0,_,_,_,h=>h
 |fuel+1,_,_,_,h=>⟨h.1,λi hi=>To (wpOpIn_mono (λ_ _=>Ka fuel _ _ _) (h.2 i hi))⟩
theorem yc{l:GE}{listed:Array Bool}(q:listed.getD 0 false=true):Region.ready .any (iZ l).toArray listed=Region.ready .any l.toArray listed:=by
 unfold Region.ready;simp only[ae9,yb,aet,sU];refine List.filter_congr λi _=>?_
 congr 1
 cases l[i]? with
 |none=>rfl
 |some o=>
  simp only[aeE,Option.getD_some]
  split
  ·rfl
  ·simp;intro _;right;simpa using q
theorem EP{st:Nat->(Act->World->Prop)->Act->World->Prop}(u:∀(i:Nat)(K O:Act->World->Prop)(a:Act)(w:World),(∀a w,K a w->O a w)->st i K a w->st i O a w){l:GE}{E:Act->World->Prop}:∀(fuel:Nat)(listed:Array Bool)(a:Act)(w:World),listed.getD 0 false=true->qP st (iZ l).toArray E fuel listed a w->qP st l.toArray E fuel listed a w
 |0,listed,a,w,H,h=>by
  rw[qP,yc H]at h;exact h
 |fuel+1,listed,a,w,H,h=>by
  rw[qP,yc H]at h;refine⟨h.1,λi hi=>u _ _ _ _ _ (λa w=>EP u fuel _ a w ?_) (h.2 i hi)⟩
  by_cases A:i=0
  ·subst A
   have:0<listed.size:=by
    rcases Nat.eq_zero_or_pos listed.size with q|q
    ·simp[q]at H
    ·exact q
   simp[this]
  ·rw[getD_set_ne false A];exact H
theorem Ma{r:Option Nat}{n i:Nat}{o:Oper}{Q:Exit->Act->World->Prop}(hC:dO ops=true)(hns:Region.noSelect ops=true)(hP:∀c a w, ¬Q (.panic c) a w)(V:ops[i]?=some o){d t:Tmp}{v:Value}{a:Act}{w:World}{K:Act->World->Prop}(hd:d∉o.looksAt ops)(hod:o.dst≠some d)(Y:o.dst≠some t)(h:wpOpIn (WF r) n P ops Q i K (a.put (some d) v) w) :
  wpOpIn (WF r) n P ops Q i (λa' w'=>K (a'.put (some d) v) w'∧a'.eval (.tmp t)=a.eval (.tmp t)) a w:=by
 have U:=λcs b=>Region.noSelect_spec hns i o cs b V;have A:∀(a:Act)(u:Value),(a.put (some d) v).put o.dst u=(a.put o.dst u).put (some d) v:=λa u=>Act.put_comm a v u (λe H q=>hod (by rw[q,H]))
 have O:∀(a:Act)(u:Value),(a.put o.dst u).eval (.tmp t)=a.eval (.tmp t):=λa u=>Act.eval_put λe H W=>Y (by
  rw[H];injection W with W;rw[W])
 unfold wpOpIn at h⊢;simp only[V]at h⊢;rw[wanted_put o a (some d) v (λe H=>by injection H with H;exact H ▸ hd)]at h
 split at h
 ·rename_i hw;rw[if_pos hw];refine⟨λf _=>trivial,?_⟩;have h:=h.2;rw[pF hC V,execOp_put o U a (some d) v (λe H=>by injection H with H;exact H ▸ hd)]at h;rw[pF hC V];generalize(execOp a.eval o).run P w=res at h⊢
  cases res with
  |ok x w'=>
   cases x<;>simp only[Oper.uponIn]at h⊢
   case value=>exact⟨A _ _ ▸ h,O _ _⟩
   case skip=>exact⟨A _ _ ▸ h,O _ _⟩
   case enter=>
    refine⟨h.1,CallsIn.mono h.2 λe w'' H=>?_⟩;cases e
    case returned=>exact⟨A _ _ ▸ H,O _ _⟩
    case panicked=>exact absurd H (hP _ _ _)
    case outgrown=>exact H
   case defer q=>exact⟨A {a with defers:=q::a.defers} undef ▸ h,O {a with defers:=q::a.defers} undef⟩
   case row=>exact⟨h.1,RowsIn.mono h.2 λ_ _ H=>⟨A _ _ ▸ H,O _ _⟩⟩
   case round=>
    refine⟨h.1,RoundIn.mono h.2 λe w'' H=>?_⟩;cases e
    case returned=>exact⟨A _ _ ▸ H,O _ _⟩
    case panicked=>exact absurd H (hP _ _ _)
    case outgrown=>exact H
  |halt x w'=>
   cases x<;>simp only[Oper.uponIn]at h⊢
   all_goals first|exact h|exact absurd h (hP _ _ _)
 ·rename_i hw;rw[if_neg hw];exact⟨λf _=>trivial,A _ _ ▸ h.2,O _ _⟩
def Bb(ops:Array Oper)(d t:Tmp):Bool:=
 Region.noSelect ops&&dO ops&&(d !=t)&&(match ops[0]? with|some o=>(o.dst==some d)&&(match o.op with| .move (.tmp u)=>u==t|_=>false)&&o.guard.isNone&&(o.after.size==0)|none=>false) &&
 (List.range ops.size).all (λj=>j==0||match ops[j]? with|some o=>(o.dst !=some d)&&(o.dst !=some t)&&(bd ops j 0 || !(o.looksAt ops).contains d)|none=>true)
theorem FD{r:Option Nat}{n:Nat}{Q:Exit->Act->World->Prop}{d t:Tmp}(hL:Bb ops d t=true):0<ops.size∧(∀(l:GE)(listed:Array Bool),l.toArray=ops->listed.getD 0 true=false->0∈Region.ready .any (iZ l).toArray listed)∧(∀(listed:Array Bool),listed.getD 0 true=false->0∈Region.ready .any ops listed)∧∀(K:Act->World->Prop)a w,wpOpIn (WF r) n P ops Q 0 K a w↔K (a.put (some d) (a.eval (.tmp t))) w:=by
 simp only[Bb,aeW,List.all_eq_true,List.mem_range,bne_iff_ne]at hL;obtain⟨⟨⟨⟨hns,hC⟩,hdt⟩,H⟩,hall⟩:=hL
 obtain⟨o0,A,U,W,hg,V⟩:∃o0:Oper,ops[0]?=some o0∧o0.dst=some d∧o0.op=.move (.tmp t)∧o0.guard=none∧o0.after = #[]:=by
  cases ho:ops[0]? with
  |none=>simp[ho]at H
  |some o=>
   simp only[ho,aeW,beq_iff_eq]at H;refine⟨o,rfl,H.1.1.1,?_,by simpa using H.1.2,by simpa using H.2⟩
   have:=H.1.1.2
   split at this
   ·rename_i u hu;rw[hu];simp at this;rw[this]
   ·cases this
 have h0s:0<ops.size:=by
  rcases Nat.eq_zero_or_pos ops.size with q|q
  ·rw[Array.getElem?_eq_none zd]at A;cases A
  ·exact q
 refine⟨h0s,λl listed Y hl=>mem_ready.2 ⟨hl,o0,by subst Y;simp only[aet]at A;simp[sU,A],λe O _=>by rw[V]at O;simp at O⟩,λlisted hl=>mem_ready.2 ⟨hl,o0,A,λe O _=>by rw[V]at O;simp at O⟩,?_⟩
 ·intro K a w;unfold wpOpIn;simp only[A];rw[if_pos (by simp[Region.wanted,hg])];unfold Oper.wpIn;rw[pF hC A]
  have:(execOp a.eval o0).run P w=.ok (.value (a.eval (.tmp t))) w:=by unfold execOp;rw[W];rfl
  rw[this];simp only[Oper.uponIn,U];exact⟨λh=>h.2,λh=>⟨λf _=>trivial,h⟩⟩
theorem IP{r:Option Nat}{n:Nat}{Q:Exit->Act->World->Prop}{E:Act->World->Prop}{d t:Tmp}(hL:Bb ops d t=true)(hP:∀c a w, ¬Q (.panic c) a w):∀(fuel:Nat)(listed:Array Bool)(a:Act)(w:World),listed.size=ops.size->listed.getD 0 true=false->qP (wpOpIn (WF r) n P ops Q) ops E fuel (listed.setIfInBounds 0 true) (a.put (some d) (a.eval (.tmp t))) w->qP (wpOpIn (WF r) n P ops Q) ops E (fuel+1) listed a w:=by
 obtain⟨h0s, -,hread,u⟩:=FD (P:=P) (Q:=Q) (r:=r) (n:=n) hL;simp only[Bb,aeW,List.all_eq_true,List.mem_range,bne_iff_ne]at hL;obtain⟨⟨⟨⟨hns,hC⟩,hdt⟩,h0⟩,V⟩:=hL
 have hstep:∀(listed:Array Bool),listed.size=ops.size->listed.getD 0 true=false->∀i∈Region.ready .any ops listed,i≠0->i∈Region.ready .any ops (listed.setIfInBounds 0 true)∧∀(K:Act->World->Prop)v a w,wpOpIn (WF r) n P ops Q i K (a.put (some d) v) w->wpOpIn (WF r) n P ops Q i (λY w'=>K (Y.put (some d) v) w'∧Y.eval (.tmp t)=a.eval (.tmp t)) a w:=by
  intro listed O hl i hi q;obtain⟨g1,o,g2,g3⟩:=mem_ready.1 hi;have hil:i<ops.size:=(Array.getElem?_eq_some_iff.1 g2).1
  refine⟨mem_ready.2 ⟨by rw[getD_set_ne true (Ne.symm q)];exact g1,o,g2,λe H hb=>?_⟩,?_⟩
  ·by_cases U:e.on=0
   ·rw[U];simp[O,h0s]
   ·rw[getD_set_ne false (Ne.symm U)];exact g3 e H hb
  ·have W:=V i hil;simp only[g2,Bool.or_eq_true,beq_iff_eq,q,false_or,aeW,bne_iff_ne]at W;intro K v a w h;refine Ma hC hns hP g2 ?_ W.1.1 W.1.2 h
   rcases W.2 with A|hlook
   ·exfalso;simp only[bd,g2,aeW,beq_iff_eq,Array.any_eq_true']at A;obtain⟨e,H,hb,h00⟩:=A
    have:=g3 e H hb
    rw[h00]at this;simp only[Array.getD_eq_getD_getElem?]at this hl;rw[Array.getElem?_eq_getElem zd]at this hl;simp at this hl;rw[this]at hl;cases hl
   ·intro hm;rw[List.contains_iff_mem.2 hm]at hlook;cases hlook
 intro fuel
 induction fuel with
 |zero=>
  intro listed a w O hl h
  refine⟨λH=>?_,λi hi=>?_⟩
  ·have:=hread listed hl;rw[H]at this;cases this
  ·by_cases q:i=0
   ·subst q;exact(u _ _ _).2 h
   ·have:=(hstep listed O hl i hi q).1
    rw[h.1]at this;cases this
 |succ fuel ih=>
  intro listed a w O hl h
  refine⟨λH=>?_,λi hi=>?_⟩
  ·have:=hread listed hl;rw[H]at this;cases this
  ·by_cases q:i=0
   ·subst q;exact(u _ _ _).2 h
   ·obtain⟨q1,q2⟩:=hstep listed O hl i hi q;refine wpOpIn_mono (λY w' hk=>?_) (q2 _ _ _ _ (h.2 i q1));have e:(listed.setIfInBounds 0 true).setIfInBounds i true=(listed.setIfInBounds i true).setIfInBounds 0 true:=Array.setIfInBounds_comm _ _ (Ne.symm q)
    refine ih _ Y w' (by simpa using O) ?_ ?_
    ·rw[getD_set_ne true q];exact hl
    ·rw[<-e,hk.2];exact hk.1
theorem qp{n0 id:Nat}{s:AS}{l:GE}{Q:bg->AS->Prop}(m0 d t:Nat)(hL:Bb l.toArray d t=true)(H:gW (iZ l).toArray m0=true)(hC:dO (iZ l).toArray=true)(h:fY P (iZ l) (λs=>jT P (iZ l) ((iZ l).drop m0) s (Q .normal)) ((iZ l).take m0) s):cD P n0 (.region id l.toArray true) s Q:=by
 refine .inr (λf m D nu a w hZr hn hm hs hmx R hO hR=>?_)
 have hCl:dO l.toArray=true:=by
  simp only[Bb,aeW]at hL;exact hL.1.1.1.2
 have hm0:m0<=(iZ l).length:=by
  simp only[gW,aeW,decide_eq_true_eq,ae9]at H;exact Nat.le_of_lt H.1.1.2
 have hcalm:∀oo,oo∈(iZ l).drop m0->∀c,oo.op ≠ .defer c:=λoo W c e=>by
  unfold dO at hC;rw[Array.all_eq_true_iff_forall_mem]at hC;have h2:=hC oo (by simpa using List.mem_of_mem_drop W);rw[e]at h2;cases h2
 obtain⟨u,A⟩:∃u:Exit->Act->World->Prop,u=λe a w=>(match e with| .panic _=>False|_=>True)∧R e a w:=⟨_,rfl⟩
 have hP:∀c a w, ¬u (.panic c) a w:=λc a w q=>by rw[A]at q;exact q.1
 have hN:∀a w,R .normal a w->u .normal a w:=λa w q=>by rw[A];exact⟨trivial,q⟩
 obtain⟨rs,V⟩:=jZ (P:=P) (T:=λk=>ud (wpOpIn (WF f.r) 9 P (iZ l).toArray u) (u .normal) (List.range' k ((iZ l).length-k))) hm0 H hs.drew (λsk a' wr hE W hy O hB'=>tj _ _ _ _ zd (mK m hZr _ sk a' wr D nu hcalm (by
  rw[W,hy];exact m.own hm hs.ro ((aH (dE w)).trans (aH hE)) (W ▸ O.ro)) O hB' (λD' s' a2 w2 nu' q1 q2 q3=>hN _ _ (hR .normal D' f.Z s' a2 w2 nu' q1 q2 q3)))) ((iZ l).take m0) 0 s [] (λ_=>a) zk (Nat.zero_le _) ⟨rfl,rfl,rfl,λ_=>rfl,λ_=>hs.tm.len,λx t c v h1 h2=> .inl ⟨h1,h2⟩⟩ h
 have Y:=jF _ (λ_=>false) (λi v w h=>by cases h) m0 (KZ hC u) H (oG _ _ _ V);have Y:=Ka _ _ _ _ Y
 have hlen:0<l.length:=by
  rw[<-yb];simp only[gW,aeW,decide_eq_true_eq,ae9]at H
  have:=H.1.1.2;omega
 obtain⟨fuel,hf⟩:∃fuel,l.length=fuel+1:=⟨l.length-1,zd⟩
 have hX2:qP (wpOpIn (WF f.r) 9 P l.toArray u) l.toArray (u .normal) (fuel+1) (Array.replicate (fuel+1) false) a w.drew:=by
  rw[ae9,yb,hf]at Y;refine IP hL hP fuel _ a _ (by simp[hf]) zk ?_;obtain⟨-,he, -,U⟩:=FD (P:=P) (Q:=u) (r:=f.r) (n:=9) hL;exact EP (st:=wpOpIn (WF f.r) 9 P l.toArray u) (λi K K' a w h k=>wpOpIn_mono h k) fuel ((Array.replicate (fuel+1) false).setIfInBounds 0 true) _ _ zk ((U _ _ _).1 (Y.2 0 (he l _ rfl zk)))
 refine Code.wpIn_mono (Q:=u) (λe a w q=>by rw[A]at q;exact q.2) (wpIn_region_any hmx (Cm _ _ _ _ ?_));rw[ae9,hf];exact hX2
end
section
variable {K:Type} [DecidableEq K] {enc:K->C5} {ks:Nm}
def JM(ks:Nm)(enc:K->C5):Prop:=∀a b,lE ks (enc a) (enc b)=some (decide (a=b))
def cg(enc:K->C5)(l:List (K×Int)):List C5:=l.map (λp=>[.agg (enc p.1),.v (.int .i64 p.2)])
theorem mR(h:JM ks enc)(k:K):∀l:List (K×Int),kN ks (enc k) (cg enc l)=some ((bV l k).map λt=> .v (.int .i64 t))
 | []=>rfl
 |p::l=>by
  rw[cg,afZ,kN,h k p.1,bV]
  by_cases e:p.1=k
  ·grind
  ·rw[if_neg e,decide_eq_false (Ne.symm e)];exact mR h k l
theorem uf(h:JM ks enc)(k:K)(t:Int):∀l:List (K×Int),mc ks (enc k) (.v (.int .i64 t)) (cg enc l)=some (cg enc (gL l k t))
 | []=>rfl
 |p::l=>by
  rw[cg,afZ,mc,h k p.1,gL]
  by_cases e:p.1=k
  ·rw[if_pos e,decide_eq_true e.symm];rfl
  ·rw[if_neg e,decide_eq_false (Ne.symm e)];show Option.map _ (mc ks (enc k) _ (cg enc l))=_;rw[uf h k t l];rfl
omit [DecidableEq K]in
theorem gp{n:Nat}(q:∀k,aQ n (enc k)=true):∀l:List (K×Int),bE n (cg enc l)=true
 | []=>rfl
 |p::l=>by
  simp only[cg,afZ,bE,aQ,AV.wf,q p.1,Bool.true_and,afe];exact gp q l
end
theorem BL(a b:ByteArray):(a.toList==b.toList)=decide (a=b):=by
 rw[Bool.eq_iff_iff,beq_iff_eq,decide_eq_true_eq]
 grind[sJ]
def cJ(k:Nd):C5:=[.v (.string k.1),.v (.int .i64 k.2)]
theorem PC:JM [.s,.s] bJ:=λa b=>by
 obtain⟨A,a2⟩:=a;obtain⟨u,q⟩:=b;simp only[bJ,lE,kv,BL,afe,aep]
 grind
theorem vX:JM [.s,.i] cJ:=λa b=>by
 obtain⟨A,a2⟩:=a;obtain⟨u,q⟩:=b;simp only[cJ,lE,kv,BL,afe,if_true,aep]
 grind
theorem WY(l:List (K2×Int))(k:K2)(t:Int):bT prog 29 [.vec 0 0,.agg (bJ k),.v (.int .i64 t)] [some ⟨70,0,false,cg bJ l⟩] (.v (.bool (dV l k t))) [some ⟨70,0,false,cg bJ (gd l k t)⟩]:=by
 have g1:=mR PC k l;have g2:=uf PC k t l;have g3:=PC k k;rw[decide_eq_true rfl]at g3;have eW:∀l,bE 1 (cg bJ l)=true:=gp (λ_=>rfl)
 have tt:lW prog 74=some [.s,.s]:=zo
 rw[gd];unfold dV
 cases u:bV l k with
 |none=>
  rw[u]at g1;simp only[Option.map_none,if_true]at g1⊢;simp only[bJ]at g1 g2 g3⊢;refine gF func29 ntmps29 results29 ?_;refine ak (pt g1 g2 g3 tt) ?_;refine⟨ej,AW ?_,ej⟩
  grind
 |some oy=>
  rw[u]at g1;simp only[aeE]at g1⊢
  by_cases q:oy<t
  ·have d1:decide (t<=oy)=false:=bi;simp only[decide_eq_true q,if_true];simp only[bJ]at g1 g2 g3⊢;refine gF func29 ntmps29 results29 ?_;refine ak (qu g1 g2 g3 tt d1) ?_;refine⟨ej,AW ?_,ej⟩
   grind
  ·have d1:decide (t<=oy)=true:=b0;simp only[decide_eq_false q,if_false,Bool.false_eq_true];simp only[bJ]at g1 g2 g3⊢;refine gF func29 ntmps29 results29 ?_;refine ak (qu g1 g2 g3 tt d1) ?_;refine⟨ej,AW ?_,ej⟩
   grind
theorem WZ(l:L1)(k:Nd)(t:Int):bT prog 56 [.vec 0 0,.agg (cJ k),.v (.int .i64 t)] [some ⟨108,0,false,cg cJ l⟩] (.v (.bool (dV l k t))) [some ⟨108,0,false,cg cJ (gd l k t)⟩]:=by
 have g1:=mR vX k l;have g2:=uf vX k t l;have g3:=vX k k;rw[decide_eq_true rfl]at g3;have eW:∀l,bE 1 (cg cJ l)=true:=gp (λ_=>rfl)
 have tt:lW prog 79=some [.s,.i]:=zo
 rw[gd];unfold dV
 cases u:bV l k with
 |none=>
  rw[u]at g1;simp only[Option.map_none,if_true]at g1⊢;simp only[cJ]at g1 g2 g3⊢;refine gF func56 ntmps56 results56 ?_;refine ak (pt g1 g2 g3 tt) ?_;refine⟨ej,AW ?_,ej⟩
  grind
 |some oy=>
  rw[u]at g1;simp only[aeE]at g1⊢
  by_cases q:oy<t
  ·have d1:decide (t<=oy)=false:=bi;simp only[decide_eq_true q,if_true];simp only[cJ]at g1 g2 g3⊢;refine gF func56 ntmps56 results56 ?_;refine ak (qu g1 g2 g3 tt d1) ?_;refine⟨ej,AW ?_,ej⟩
   grind
  ·have d1:decide (t<=oy)=true:=b0;simp only[decide_eq_false q,if_false,Bool.false_eq_true];simp only[cJ]at g1 g2 g3⊢;refine gF func56 ntmps56 results56 ?_;refine ak (qu g1 g2 g3 tt d1) ?_;refine⟨ej,AW ?_,ej⟩
   grind
section
open Go.ChangeMaps (setBlock)
section
variable {F:Fence} {n:Nat} {P:Program} {w:World} {ops:Array Oper} {rest:GE} {o:Oper} {a:Act} {Q:Exit->Act->World->Prop}
theorem C7(U:o.guard=none)(m:Operand)(t k e:TypeId)(b:Nat)(es:Array MapEntry)(cl:Nat)(q:o.op=Op.range t m)(H:P.underlying t=some (.map k e))(O:a.eval m=.map (some b))(V:w.heap[b]?=some (.map es cl))
  (hK:wpListIn F n P ops Q rest (a.put o.dst (.pointer (some ⟨w.heap.size,0,none⟩))) (w.alloc (.mapIter (some b) cl #[] cl))):wpListIn F n P ops Q (o::rest) a w:=by
 refine wpListIn_plain U λW A=>?_;unfold Oper.wpIn;refine⟨by simp[Oper.about,q],?_⟩;rw[Oper.semAt_plain F _ _ (by rw[q];intro c u;cases u)];simp[execOp,q,O,run_range_map w t k e b es cl H V,Result.andThen];exact A _ _ hK
theorem Fo(O:o.guard=none)(p:Operand)(t:TypeId)(v:Value)(q:o.op=Op.load t p)(u:(Instr.loadAt t (a.eval p)).run P w=.ok v w)(hK:wpListIn F n P ops Q rest (a.put o.dst v) w):wpListIn F n P ops Q (o::rest) a w:=by
 refine wpListIn_plain O λU H=>?_;unfold Oper.wpIn;refine⟨by simp[Oper.about,q],?_⟩;rw[Oper.semAt_plain F _ _ (by rw[q];intro c A;cases A)];simp[execOp,q,u,Result.andThen];exact H _ _ hK
def Yu(es:Array MapEntry)(seen:Array Nat):Prop:=(leftOf es seen).size=0
def Yy(w:World)(r:Nat)(o':Obj)(w2:World):Prop:=w2=setBlock w r o'∨w2=setBlock w.drew r o'
def Yx(es:Array MapEntry)(seen:Array Nat)(e:MapEntry):Prop:=e∈(leftOf es seen).toList
theorem Fp(hg:o.guard=none)(it:Operand)(u:o.op=Op.next it false)(r bm since W:Nat)(seen:Array Nat)(es:Array MapEntry)(cl:Nat)(A:a.eval it=.pointer (some ⟨r,0,none⟩))
  (hr:w.heap[r]?=some (.mapIter (some bm) since seen W))(hb:w.heap[bm]?=some (.map es cl))(hold:∀x∈es.toList,x.born<since)(U:since<=W)
  (hDone:Yu es seen->wpListIn F n P ops Q rest (a.put o.dst (.tuple #[.bool false])) w)
  (hMore:∀(e:MapEntry)(Y:World),Yx es seen e->Yy w r (.mapIter (some bm) since (seen.push e.born) cl) Y->wpListIn F n P ops Q rest (a.put o.dst (.tuple #[.bool true,e.key,e.val])) Y) :
  wpListIn F n P ops Q (o::rest) a w:=by
 refine wpListIn_plain hg λK' H=>?_;unfold Oper.wpIn;refine⟨by simp[Oper.about,u],?_⟩;rw[Oper.semAt_plain F _ _ (by rw[u];intro c V;cases V)]
 rcases run_next_at (P:=P) w o.type r bm since W seen es cl hr hb hold U with⟨h0,q⟩|⟨e,he,w1,O,q⟩
 ·simp[execOp,u,A,q,Result.andThen];exact H _ _ (hDone h0)
 ·simp[execOp,u,A,q,Result.andThen];exact H _ _ (hMore e _ he (by rcases O with rfl|rfl;exact .inl rfl;exact .inr rfl))
theorem C0(U:o.guard=none)(it:Operand)(q:o.op=Op.entry it)(r:Nat)(v:Value)(A:a.eval it=.pointer (some ⟨r,0,none⟩))(u:(Instr.entry (.pointer (some ⟨r,0,none⟩))).run P w=.ok v w)
  (hK:wpListIn F n P ops Q rest (a.put o.dst v) w):wpListIn F n P ops Q (o::rest) a w:=by
 refine wpListIn_plain U λV O=>?_;unfold Oper.wpIn;refine⟨by simp[Oper.about,q],?_⟩;rw[Oper.semAt_plain F _ _ (by rw[q];intro c H;cases H)];simp[execOp,q,A,u,Result.andThen];exact O _ _ hK
end
def dZ{α:Type}(l:List (α×MapEntry))(seen:Array Nat):List (α×MapEntry):=l.filter (λp=> !seen.contains p.2.born)
theorem yI{α:Type}{seen:Array Nat}:∀{l:List (α×MapEntry)},(l.map (λp=>p.2.born)).Nodup->∀{p:α×MapEntry},p∈l->seen.contains p.2.born=false->(dZ l seen).Perm (p::dZ l (seen.push p.2.born))
 | [],_,p,h,_=>by cases h
 |q::l,hn,p,h,U=>by
  rw[afZ,List.nodup_cons]at hn
  have push:∀b,(seen.push p.2.born).contains b=(seen.contains b||b==p.2.born):=λb=>by
   rw[Bool.eq_iff_iff];simp
  rcases List.mem_cons.1 h with rfl|h
  ·have H:dZ (p::l) seen=p::dZ l seen:=by simp only[dZ];rw[af8 (by rw[U];rfl)]
   have A:dZ (p::l) (seen.push p.2.born)=dZ l (seen.push p.2.born):=by simp only[dZ];rw[af9 (by rw[push];simp)]
   have V:dZ l (seen.push p.2.born)=dZ l seen:=by
    refine List.filter_congr λq u=>?_
    have:q.2.born≠p.2.born:=λe=>hn.1 (e ▸ List.mem_map.2 ⟨q,u,rfl⟩)
    rw[push];simp[this]
   rw[H,A,V]
  ·have O:q.2.born≠p.2.born:=λe=>hn.1 (e ▸ List.mem_map.2 ⟨p,h,rfl⟩);have ih:=yI hn.2 h U
   by_cases u:seen.contains q.2.born=true
   ·have H:dZ (q::l) seen=dZ l seen:=by simp only[dZ];rw[af9 (by rw[u];simp)]
    have A:dZ (q::l) (seen.push p.2.born)=dZ l (seen.push p.2.born):=by simp only[dZ];rw[af9 (by rw[push,u];simp)]
    rw[H,A];exact ih
   ·rw[Bool.not_eq_true]at u
    have H:dZ (q::l) seen=q::dZ l seen:=by simp only[dZ];rw[af8 (by rw[u];rfl)]
    have A:dZ (q::l) (seen.push p.2.born)=q::dZ l (seen.push p.2.born):=by simp only[dZ];rw[af8 (by rw[push,u];simp[O])]
    rw[H,A];exact(ih.cons q).trans (.swap _ _ _)
theorem Mz{α:Type}{seen:Array Nat}{l:List (α×MapEntry)}(h:∀p∈l,seen.contains p.2.born=true):dZ l seen=[]:=by
 rw[dZ,List.filter_eq_nil_iff];intro p hp;rw[h p hp];simp
theorem Lb{α β:Type}:∀{l:List α}{m:List β},l.length=m.length->(l.zip m).map Prod.snd=m
 | [],[],_=>rfl
 |a::l,b::m,h=>by simp[Lb (by simpa using h)]
theorem zip_fst{α β:Type}:∀{l:List α}{m:List β},l.length=m.length->(l.zip m).map Prod.fst=l
 | [],[],_=>rfl
 |a::l,b::m,h=>by simp[zip_fst (by simpa using h)]
theorem Hc.trans{X:Nat->Prop}{a b c:World}(h:Hc X a b)(k:Hc X b c):Hc X a c:=⟨k.os.trans h.os,k.tape.trans h.tape,k.output.trans h.output,Nat.le_trans h.size k.size,λi hi q=>(k.same i (Nat.lt_of_lt_of_le hi h.size) q).trans (h.same i hi q)⟩
theorem Av{X:Nat->Prop}(w:World)(o:Obj):Hc X w (w.alloc o):=⟨rfl,rfl,rfl,zk,λb q _=>(MapKept.heap_alloc w o).2 b q⟩
theorem JW{X:Nat->Prop}(w:World){r:Nat}(o:Obj)(h:X r):Hc X w (setBlock w r o):=⟨rfl,rfl,rfl,by simp[setBlock],λb A u=>by
 show(w.heap.setIfInBounds r o)[b]? = _;have q:r≠b:=λe=>u (by rw[<-e];exact h)
 rw[aga q]⟩
theorem Od{X:Nat->Prop}(w:World):Hc X w w.drew:=⟨rfl,rfl,rfl,aed _,λ_ _ _=>rfl⟩
def PD(k:K2):Value:= .agg #[.string k.1,.string k.2]
theorem PH(l:List (K2×Int)):Hj true prog 99 [.vp [.mp (cg bJ l)]] [] (l.map λp=>[.agg (bJ p.1)]):=by
 refine⟨zo,λlb pr hperm D nu w vargs X hro ha hx hx' hD hSt hJ=>?_⟩;have hX:∀b, ¬X b:=λb h=>br _ _ (hx' b h);obtain⟨x,rfl,hxr⟩:=ic ha;obtain⟨m0,hld,hm⟩:=qz (P:=prog) (T:=70) hro hxr (r:= .mp (cg bJ l)) rfl trivial
 obtain⟨bm,es,cl,rfl,hbm,hblk,hsz,hborn,hrise,hkey⟩:∃bm es cl,m0=.map (some bm)∧Fz D nu [] w bm∧w.heap[bm]?=some (.map es cl)∧es.size=l.length∧(∀x∈es.toList,x.born<cl)∧(es.toList.map (·.born)).Nodup∧∀p∈l.zip es.toList,p.2.key=PD p.1.1:=by
  cases hm with
  |mp _ b es cl h1 h2 h3 h4 h5 h6 h7=>
   have h3':es.size=l.length:=by simpa [cg]using h3
   refine⟨b,es,cl,rfl,h1,h2,h3',λx hx=>?_,?_,λp hp=>?_⟩
   ·obtain⟨i,hi,rfl⟩:=agb hx;exact h5 i _ (by simp at hi⊢)
   ·rw[List.nodup_iff_pairwise_ne,List.pairwise_map,List.pairwise_iff_getElem];intro i j hi hj hij
    have:=h6 i j _ _ (aer (by simpa using hi)) (aer (by simpa using hj)) hij
    simp only[Array.getElem_toList];omega
   ·obtain⟨i,hi,rfl⟩:=agb hp;rw[List.getElem_zip]
    have hi1:i<l.length:=by simp at hi;omega
    have hi2:i<es.size:=zd
    have:=h7 i 0 _ _ _ (show(cg bJ l)[i]?=some [.agg (bJ l[i].1),.v (.int .i64 l[i].2)] by simp[cg,hi1]) rfl (aer hi2)
    have e:=j0 (xs:=[.string l[i].1.1,.string l[i].1.2]) this;simpa [PD,Vp]using e
 have hbmD:bm<w.heap.size:=hbm.1;have V:pr.St bm:=(hD bm hbm.1 hbm.2.2).resolve_left (hX bm)
 have hzl:l.length=es.toList.length:=by simpa using hsz.symm
 have hzn:((l.zip es.toList).map (λp=>p.2.born)).Nodup:=by
  have:=Lb hzl
  rw[show(l.zip es.toList).map (λp=>p.2.born)=((l.zip es.toList).map Prod.snd).map (·.born) by simp,this];exact hborn |> λ_=>hrise
 have hJ0:pr.J ((dZ (l.zip es.toList) #[]).map λp=>[.agg (bJ p.1.1)]) X X w:=by
  have e:dZ (l.zip es.toList) #[]=l.zip es.toList:=by rw[dZ,List.filter_eq_self];intro p hp;simp
  rw[e,show(l.zip es.toList).map (λp=>[AV.agg (bJ p.1.1)])=((l.zip es.toList).map Prod.fst).map λp=>[AV.agg (bJ p.1)] by simp,zip_fst hzl];exact hJ
 refine xV (n:=9) (callsIn_of_wp func99 rfl trivial ?_ rfl);simp only[ntmps99,List.size_toArray,List.length_cons,aeg,Nat.reduceAdd,Nat.reduceSub,Array.replicate_succ,Array.replicate_zero,List.push_toArray,List.append_toArray,afy,afz];have HJ:=Lib.hid hJ0;have HP:=Lib.hid (hperm rfl);have HST:=Lib.hid V;clear hJ hJ0 hperm V;have hwf:(WF none).round=none:=rfl
 have uM:prog.underlying 70=some (.map 74 3):=zo
 clear hro ha hx hx' hxr hm
 gi_wp2_with (first|refine Fo rfl _ _ _ rfl hld ?_|refine C7 rfl _ _ _ _ bm es cl rfl uM rfl hblk ?_)
 have hW1:Hc X w (w.alloc (.mapIter (some bm) cl #[] cl)):=Av w _;have hR1:(w.alloc (.mapIter (some bm) cl #[] cl)).heap[w.heap.size]?=some (.mapIter (some bm) cl #[] cl):=(MapKept.heap_alloc w _).1;have hM1:(w.alloc (.mapIter (some bm) cl #[] cl)).heap[bm]?=some (.map es cl):=((MapKept.heap_alloc w _).2 bm hbmD).trans hblk;have HJ1:=Lib.hid (pr.qY HJ.out hW1 (X':=λb=>b=w.heap.size) (λb hb=>by subst hb;exact⟨zk,.inr (aed _)⟩))
 have hz1:(w.alloc (.mapIter (some bm) cl #[] cl)).heap.size=w.heap.size+1:=zk
 generalize hw1:w.alloc (.mapIter (some bm) cl #[] cl)=w1 at *;clear hw1 hW1 HJ hld
 go_frame
 gi_loopw [3] (λ_ wr=>∃(seen:Array Nat)(c0:Nat)(T:Nat->Prop),wr.heap[w.heap.size]?=some (.mapIter (some bm) cl seen c0)∧wr.heap[bm]?=some (.map es cl)∧cl<=c0∧T w.heap.size∧pr.J ((dZ (l.zip es.toList) seen).map λp=>[AV.agg (bJ p.1.1)]) (λb=>b=w.heap.size) T wr)
  (λ_ wr=>match wr.heap[w.heap.size]? with|some (.mapIter _ _ seen _)=>(leftOf es seen).size|_=>0)
 case atStart=>
  exact⟨#[],cl,_,hR1,hM1,aed _,.inr ⟨aed _,zd⟩,HJ1.out⟩
 case round=>
  obtain⟨seen,c0,T,hr,hb,hc,hT,hj⟩:=hrel;have HJR:=Lib.hid hj;clear hj HJ1
  gi_wp2_with (refine Fp rfl _ rfl _ bm cl c0 seen es cl rfl hr hb hborn hc ?_ ?_)
  ·intro h0
   gi_wp2_with fail
   go_end0
   have hnil:dZ (l.zip es.toList) seen=[]:=Mz λp hp=>all_seen es seen h0 p.2 (List.of_mem_zip hp).2;have hje:=HJR.out;rw[hnil,List.map_nil]at hje;exact⟨⟨_,rfl⟩,_,_,.inl hje⟩
  ·intro e U he H;obtain⟨hee,hes⟩:=mem_left he;obtain⟨i,hi,hie⟩:=agb hee
   have hil:i<l.length:=zd
   have hpz:(l[i],e)∈l.zip es.toList:=by
    refine List.mem_iff_getElem.2 ⟨i,ahn,?_⟩;rw[List.getElem_zip,hie]
   have hk:=hkey _ hpz
   have hs2:U.heap.size=wr.heap.size:=by rcases H with rfl|rfl<;>simp[setBlock]
   have hrs:w.heap.size<wr.heap.size:=(aeh.1 hr).1
   have Y:U.heap[w.heap.size]?=some (.mapIter (some bm) cl (seen.push e.born) cl):=by
    rcases H with rfl|rfl<;>simp[setBlock,hrs]
   have hb2:U.heap[bm]?=some (.map es cl):=by
    have hne:w.heap.size≠bm:=zd
    rcases H with rfl|rfl<;>(show(wr.heap.setIfInBounds _ _)[bm]? = _;rw[aga hne];exact hb)
   have ha2:Hc (λb=>b=w.heap.size) wr U:=by
    rcases H with rfl|rfl
    ·exact JW _ _ rfl
    ·exact(Od wr).trans (JW _ _ rfl)
   have A:=run_entry_at (P:=prog) U w.heap.size bm cl seen es cl e Y hb2 hee hrise;have hj1:=HP.out _ _ _ _ _ ((yI hzn hpz hes).map λp=>[AV.agg (bJ p.1.1)]) HJR.out;rw[afZ]at hj1;have hlt:=left_shrinks es seen e he;have HJ2:=Lib.hid hj1;have HA2:=Lib.hid ha2;have HS2:=Lib.hid hs2;have HR2:=Lib.hid Y;have HB2:=Lib.hid hb2;clear hj1 ha2 H he HJR hs2 Y hb2;rw[hk]at A⊢;simp only[PD]at A⊢;generalize l[i].1=k at *
   obtain⟨hA3,hR3,hM3,hz3⟩:Hc (λb=>b=w.heap.size) wr (U.alloc (.cells #[.string k.1,.string k.2] 74))∧(U.alloc (.cells #[.string k.1,.string k.2] 74)).heap[w.heap.size]?=some (.mapIter (some bm) cl (seen.push e.born) cl)∧(U.alloc (.cells #[.string k.1,.string k.2] 74)).heap[bm]?=some (.map es cl)∧wr.heap.size<(U.alloc (.cells #[.string k.1,.string k.2] 74)).heap.size:=by
    have:=HS2.out
    exact⟨HA2.out.trans (Av _ _),((MapKept.heap_alloc _ _).2 _ zd).trans HR2.out,((MapKept.heap_alloc _ _).2 _ zd).trans HB2.out,ahn⟩
   have hj3:=pr.qY HJ2.out hA3 (X':=λb=>b=w.heap.size) (λb hb=>by subst hb;exact⟨zd,.inl rfl⟩)
   obtain⟨fn,tmps,assign,body,hy,hR⟩:=pr.round (x:=[.agg (bJ k)]) (D:=λ_=>False) (nu:=nu) (vals:= #[.agg #[.string k.1,.string k.2]]) hj3 ⟨rfl,λi c x h1 h2=>by
    match i,h1,h2 with
    |0,h1,h2=>cases h1;cases h2;exact .agg _ _ rfl (λj c x W q2=>by
     match j,W,q2 with
     |0,W,q2=>cases W;cases q2;exact .v _
     |1,W,q2=>cases W;cases q2;exact .v _
     |j+2,W,q2=>simp[bJ]at W) (λj x q=>by
     match j,q with
     |0,q=>cases q;rfl
     |1,q=>cases q;rfl
     |j+2,q=>simp at q)
    |i+1,h1,h2=>simp at h1⟩ rfl (λb _ h=>h.elim)
   have HR:=Lib.hid hR;have HR3:=Lib.hid hR3;have HRR:=Lib.hid hr;have HM3:=Lib.hid hM3;have HZ3:=Lib.hid hz3;clear hR hR3 hM3 hz3 hj3 hA3 hr hb HA2 HB2 HR2 HS2 HJ2
   gi_wp2_with (refine C0 rfl _ rfl _ _ rfl A ?_)
   clear A;refine HR.out.mono ?_
   rintro e2 w4 ⟨u,⟨rfl,O⟩|⟨rfl,O⟩⟩
   ·have HJ4:=Lib.hid O;have HK4:=Lib.hid u;clear O u hy
    gi_wp2_with fail
    go_roundw
    case rel=>
     have u:=HK4.out
     have:=HZ3.out
     refine⟨seen.push e.born,cl,_,(u.same _ zd (.inl (.inl hT))).trans HR3.out,(u.same _ zd (.inr HST.out)).trans HM3.out,aed _,.inl hT,HJ4.out⟩
    case measure=>
     have u:=HK4.out
     have:=HZ3.out
     rw[HRR.out,(u.same _ zd (.inl (.inl hT))).trans HR3.out];exact hlt
   ·have HJ4:=Lib.hid O;clear O u hy
    gi_wp2_with fail
    refine bodyPost_ret (results_none rfl _ _ _) rfl ?_;exact⟨⟨_,rfl⟩,_,_,.inr HJ4.out⟩
mutual
theorem vq{f:Nat->Nat}{m:Nat}(q:∀k,k<m->f k=k):∀a:AV,a.wf m=true->a.bb f=a
 | .undef,_=>rfl
 | .v _,_=>rfl
 | .agg cs,h=>by rw[AV.bb,jS q cs h]
 | .ck cs,h=>by rw[AV.bb,jS q cs h]
 | .aA z rows len,h=>by rw[AV.bb,xn q rows h]
 | .vp cs,h=>by rw[AV.bb,jS q cs h]
 | .ptr id _ _ _ _,h=>by simp[AV.wf]at h;rw[AV.bb,q id h]
 | .vec id _,h=>by simp[AV.wf]at h;rw[AV.bb,q id h]
 | .fn g a b,h=>by
  simp only[AV.wf,aeW]at h;rw[AV.bb,jS q a h.1,jS q b h.2]
 | .full a,h=>by rw[AV.bb,vq q a h]
 | .ju p a,h=>by rw[AV.bb,vq q a h]
 | .mp rows,h=>by rw[AV.bb,xn q rows h]
theorem jS{f:Nat->Nat}{m:Nat}(q:∀k,k<m->f k=k):∀l:C5,aQ m l=true->bW f l=l
 | [],_=>rfl
 |a::l,h=>by
  simp only[aQ,aeW]at h;rw[bW,vq q a h.1,jS q l h.2]
theorem xn{f:Nat->Nat}{m:Nat}(q:∀k,k<m->f k=k):∀l:List C5,bE m l=true->cm f l=l
 | [],_=>rfl
 |a::l,h=>by
  simp only[bE,aeW]at h;rw[cm,jS q a h.1,xn q l h.2]
end
theorem ve{f:Nat->Nat}{m:Nat}(q:∀k,k<m->f k=k):∀l:AC,(∀ob,some ob∈l->bE m ob.rows=true)->l.map (Option.map (aa.bb f))=l
 | [],_=>rfl
 |none::l,h=>by rw[afZ,ve q l (λob u=>h ob (aeX _ u))];rfl
 |some ob::l,h=>by
  rw[afZ,ve q l (λob u=>h ob (aeX _ u)),Option.map_some,aa.bb,xn q _ (h ob List.mem_cons_self)]
theorem tO(f:Nat->Nat):∀(l X pre post:AC),l.length=X.length->fj f (List.range' pre.length l.length) l (pre++X++post)=pre++l.map (Option.map (aa.bb f))++post
 | [],[],pre,post,_=>by simp[fj]
 | [],_::_,_,_,h=>by simp at h
 |_::_,[],_,_,h=>by simp at h
 |a::l,b::X,pre,post,h=>by
  rw[List.length_cons,List.range'_succ,fj]
  have q:(pre++b::X++post).set pre.length (a.map (aa.bb f))=(pre++[a.map (aa.bb f)])++X++post:=by
   rw[List.append_assoc,agc _ _ (aed _),ae2,afz,List.set_cons_zero];simp
  rw[q]
  have:=tO f l X (pre++[a.map (aa.bb f)]) post (by simpa using h)
  rw[List.length_append,List.length_singleton]at this;rw[this];simp
theorem ah.sub{P:Program}{f:FuncId}{args:C5}{o0 o1 post:AC}{H:AV}{K:AV->AC->Prop}(h:bT P f args o0 H o1)(hl:o1.length=o0.length)
  (u:aQ o0.length args=true)(A:∀ob,some ob∈o0->bE o0.length ob.rows=true)(U:∀ob,some ob∈o1->bE o0.length ob.rows=true)(W:H.wf o0.length=true)(k:K H (o1++post)):ah P f args (o0++post) K:=by
 have O:∀j,j<o0.length->sig (List.range' 0 o0.length) (o0++post).length j=j:=λj q=>by
  rw[sig,if_pos (by simpa using q),aeS,agd q];simp
 refine ah.fr (List.range' 0 o0.length) h List.nodup_range' ?_ (jS O _ u).symm (by rw[age];exact u) (λj ob q=>by rw[age];exact A ob (aeG q)) ?_
 ·have e:o0.map (λx=>some (x.map (aa.bb (sig (List.range' 0 o0.length) (o0++post).length))))=o0.map some:=by
   have V:o0.map some=(o0.map (Option.map (aa.bb (sig (List.range' 0 o0.length) (o0++post).length)))).map some:=by rw[ve O o0 A]
   rw[V,List.map_map];rfl
  rw[e];refine agf zk λj V Y=>?_
  have q:j<o0.length:=by simpa using Y
  simp only[agh,List.getElem_range',Nat.zero_add,Nat.one_mul];rw[aej q,aes q]
 ·have e:=tO (sig (List.range' 0 o0.length) (o0++post).length) o1 o0 [] post hl;rw[aeg,hl,afy,afy]at e;rw[e,vq O H W,ve O o1 U];exact k
theorem dP.sub{P:Program}{f:FuncId}{args:C5}{o0 o1 post:AC}{H:AV}{K:AV->AC->Prop}(h:bT P f args o0 H o1)(hl:o1.length=o0.length)
  (u:aQ o0.length args=true)(A:∀ob,some ob∈o0->bE o0.length ob.rows=true)(U:∀ob,some ob∈o1->bE o0.length ob.rows=true)(W:H.wf o0.length=true)(k:K H (o1++post)):dP P f args (o0++post) K:=by
 have O:∀j,j<o0.length->sig (List.range' 0 o0.length) (o0++post).length j=j:=λj q=>by
  rw[sig,if_pos (by simpa using q),aeS,agd q];simp
 refine dP.fr (List.range' 0 o0.length) h List.nodup_range' ?_ (jS O _ u).symm (by rw[age];exact u) (λj ob q=>by rw[age];exact A ob (aeG q)) ?_
 ·have e:o0.map (λx=>some (x.map (aa.bb (sig (List.range' 0 o0.length) (o0++post).length))))=o0.map some:=by
   have V:o0.map some=(o0.map (Option.map (aa.bb (sig (List.range' 0 o0.length) (o0++post).length)))).map some:=by rw[ve O o0 A]
   rw[V,List.map_map];rfl
  rw[e];refine agf zk λj V Y=>?_
  have q:j<o0.length:=by simpa using Y
  simp only[agh,List.getElem_range',Nat.zero_add,Nat.one_mul];rw[aej q,aes q]
 ·have e:=tO (sig (List.range' 0 o0.length) (o0++post).length) o1 o0 [] post hl;rw[aeg,hl,afy,afy]at e;rw[e,vq O H W,ve O o1 U];exact k
section
variable {D:Nat->Prop} {nu:EQ} {o:AC} {w:World} {P:Program}
theorem fL{s:AS}{k i j id len:Nat}{ob ob2:aa}{row:C5}(hne:id≠k)(hk:s.o[k]?=some (some ob))(hz:0<ob.z)(hr:ob.rows[i]?=some row)(hj:row[j]?=some (.vec id len))(ho:s.o[id]?=some (some ob2))(hv:ob2.fc=true)(hl:ob2.rows.length=len) :
  Ek s (AS.mk s.t ((s.o.set id none).set k (some {ob with rows:=ob.rows.set i (row.set j (.aA ob2.z ob2.rows len))})) s.y):=by
 intro f D nu a w hs;have hp:=fh (nu:=nu) (o:=s.o) (w:=w) id;have hro:=n3 hs.ro id
 have Y:(s.o.set id none)[k]?=some (some ob):=by rw[aex hne];exact hk
 have hh:ob.hl=({ob with rows:=ob.rows.set i (row.set j (.aA ob2.z ob2.rows len))}:aa).hl:=by simp[aa.hl]
 obtain⟨g,cur,u⟩:∃g cur,B8 D nu (s.o.set id none) w k ob g cur:=by
  rcases hro.obj k ob Y with⟨_,e,_⟩|h|⟨g,es,cl,W⟩
  ·rw[e]at hr;simp at hr
  ·exact h
  ·have:=W.z;omega
 have W:=kp (nu:=nu) (o:=s.o.set id none) (w:=w) (w':=w) (ob':={ob with rows:=ob.rows.set i (row.set j (.aA ob2.z ob2.rows len))}) Y hh.symm u.b8 rfl rfl rfl rfl (λ_ _=>rfl);refine⟨nu,hp.trans W,rfl,?_,(hs.tm.mono hp (λ_ _ h=>h)).mono W (λ_ _ h=>h),hs.mh⟩;have hil:=(aek.1 hr).1;have hjl:=(aek.1 hj).1;have hsl:=my hs.ro ho hv;rw[hl]at hsl
 have key:∀(q A:Nat)r c,(ob.rows.set i (row.set j (.aA ob2.z ob2.rows len)))[q]?=some r->r[A]?=some c->∃r0 c0,ob.rows[q]?=some r0∧r0[A]?=some c0∧(c=c0∨(c=.aA ob2.z ob2.rows len∧c0=.vec id len)):=by
  intro q A r c U O
  by_cases hi:i=q
  ·subst hi;rw[aew hil]at U;cases U
   by_cases hj':j=A
   ·subst hj';rw[aew hjl]at O;cases O;exact⟨row,_,hr,hj,.inr ⟨rfl,rfl⟩⟩
   ·rw[aex hj']at O;exact⟨row,c,hr,O,.inl rfl⟩
  ·rw[aex hi]at U;exact⟨r,c,U,O,.inl rfl⟩
 refine sg hro Y hh.symm u.b8 W (λ_ _=>rfl) (cur:=cur) ⟨u.ez,u.o4,λV=>?_,λV=>?_,u.z,λq r H=>?_,λq A r c x U O h3=>?_,λq A r c x U O h3=>?_⟩
 ·obtain⟨q1,q2,q3⟩:=u.box V;exact⟨q1,by simpa using q2,q3⟩
 ·obtain⟨cap,q1,q2,q3,q4⟩:=u.vec V;exact⟨cap,by simpa using q1,by simpa using q2,q3,q4⟩
 ·by_cases hi:i=q
  ·subst hi;rw[aew hil]at H;cases H;rw[List.length_set];exact u.row i row hr
  ·rw[aex hi]at H;exact u.row q r H
 ·obtain⟨r0,c0,k1,k2,e⟩:=key q A r c U O;have h0:=u.cell q A r0 c0 x k1 k2 h3
  rcases e with rfl|⟨rfl,rfl⟩
  ·exact h0.mono W (λ_ _ h=>h)
  ·have hx:x=nu id len:=by
    cases h0 with
    |vec=>rfl
   rw[hx];exact hsl.mono W (λ_ _ h=>h)
 ·obtain⟨r0,c0,k1,k2,_⟩:=key q A r c U O;exact u.one q A r0 c0 x k1 k2 h3
end
section
variable {o:AC}
theorem sw.U3{id len:Nat}{ob:aa}(ho:o[id]?=some (some ob))(hv:ob.fc=true)(hl:ob.rows.length=len){rows':List C5}(hlen:rows'.length=ob.rows.length)
  (hr:∀(i:Nat)row row',ob.rows[i]?=some row->rows'[i]?=some row'->row'.length=row.length∧∀(j:Nat)c u,row[j]?=some c->row'[j]?=some u->sw o c u):sw o (.vec id len) (.aA ob.z rows' len):=λD nu w x W hra=>by
 have hx:x=nu id len:=by
  cases hra with
  |vec=>rfl
 subst hx;subst hl
 have get:∀(i:Nat)row',rows'[i]?=some row'->∃row,ob.rows[i]?=some row∧row'.length=row.length∧∀(j:Nat)u,row'[j]?=some u->∃c,row[j]?=some c∧sw o c u:=λi row' h=>by
  grind
 rcases W.obj id ob ho with⟨e1,e2,e3⟩|⟨g,cur,A⟩|⟨g,es,cl,hmp⟩
 rotate_left 2
 ·rw[hmp.fc]at hv;cases hv
 ·rw[e2]at hlen⊢;obtain rfl:=List.eq_nil_of_length_eq_zero hlen;simp only[aeg];rw[e3];exact .b6 _
 ·obtain⟨cap,q1,q2,q3,q4⟩:=A.vec hv;have Y:owned nu o g:=⟨id,ob,ho,A.b8⟩;rw[q1]
  have q:∀(i j:Nat)row c,ob.rows[i]?=some row->row[j]?=some c->cur[i*ob.z+j]?=some (cur.getD (i*ob.z+j) Go.undef):=λi j row c O V=>by
   have:=A.qZ O (aek.1 V).1
   simp_all
  refine .aA _ _ _ g 0 cap (λi j=>cur.getD (i*ob.z+j) Go.undef) zd zd q3 (λ_=>⟨(aeh.1 A.ez).1,br _ _,Y⟩) (λi row' O=>?_) (λi j row' u O V=>?_) (λi j row' u O V=>?_) (λi j row' u O V=>?_)
  ·obtain⟨row,H,r2,_⟩:=get i row' O;rw[r2];exact A.row i row H
  all_goals
   obtain⟨row,H,r2,r3⟩:=get i row' O;obtain⟨c,U,r5⟩:=r3 j u V
  ·rw[<-q i j row c H U]
   have:=A.ez
   grind[World.cell?]
  ·exact r5 D nu w _ W (A.cell i j row c _ H U (q i j row c H U))
  ·exact A.one i j row c _ H U (q i j row c H U)
end
def dK(N:Nat)(g:Nat->Bool):List C5:=(List.range N).map (λj=>[.v (.bool (g j))])
def mH(N:Nat)(f:GT):List C5:=(List.range N).map (λi=>[.aA 1 (dK N (f i)) N])
def nf(k i:Nat):Nat:=k+1+2*i
def bw(k N m:Nat):List C5:=(List.range m).map (λi=>[.vec (nf k i) N])
def ma(N:Nat)(g:Nat->Bool):Option aa:=some ⟨4,1,true,dK N g⟩
def bB(N:Nat)(f:GT)(m:Nat):AC:=(List.range m).flatMap (λi=>[ma N (f i),none])
def cA(k N m:Nat)(f:GT):AC:=some ⟨121,1,true,bw k N m⟩ ::bB N f m
theorem lf(N:Nat)(g:Nat->Bool):(dK N g).length=N:=by simp[dK]
theorem xd(N:Nat)(f:GT):(mH N f).length=N:=by simp[mH]
theorem dC(k N m:Nat):(bw k N m).length=m:=by simp[bw]
theorem ai(N:Nat)(f:GT)(m:Nat):(bB N f m).length=2*m:=by
 induction m with
 |zero=>rfl
 |succ m ih=>grind[bB,agi,List.length_append]
theorem gh(N:Nat)(f:GT)(m:Nat):bB N f (m+1)=bB N f m++[ma N (f m),none]:=by
 grind[bB,agi]
theorem fy(k N m:Nat):bw k N (m+1)=bw k N m++[[.vec (nf k m) N]]:=by rw[bw,agi,List.map_append];rfl
theorem dR{N j:Nat}{g:Nat->Bool}(h:j<N):(dK N g).getD j []=[.v (.bool (g j))]:=by
 grind[dK,aev]
theorem vc{N i:Nat}{f:GT}(h:i<N):(mH N f).getD i []=[.aA 1 (dK N (f i)) N]:=by
 grind[mH,aev]
theorem lM{k N m i:Nat}(h:i<m):(bw k N m).getD i []=[.vec (nf k i) N]:=by
 grind[bw,aev]
theorem oO{N:Nat}{g h:Nat->Bool}(e:∀j,j<N->g j=h j):dK N g=dK N h:=by
 refine agj λj q=>?_
 grind
theorem Wz{N:Nat}{g h:GT}(e:∀i j,i<N->j<N->g i j=h i j):mH N g=mH N h:=by
 refine agj λi hi=>?_
 grind[oO]
theorem gP{N m:Nat}{g h:GT}(e:∀i j,i<m->j<N->g i j=h i j):bB N g m=bB N h m:=by
 grind[bB,agj,ma,oO]
theorem lz(N:Nat):List.replicate N [AV.v (.bool false)]=dK N (λ_=>false):=by
 refine agf (by simp[dK]) λi u q=>by simp[dK]
theorem uY{N:Nat}{f:GT}:∀{m i:Nat},i<m->(bB N f m)[2*i]?=some (ma N (f i))
 |0,_,h=>zd
 |m+1,i,h=>by
  rw[gh]
  by_cases hi:i<m
  ·rw[aej (by rw[ai];omega)];exact uY hi
  ·obtain rfl:i=m:=zd
   rw[List.getElem?_append_right (by grind[ai]),ai,ae2];rfl
theorem mU{k N m i:Nat}{f:GT}{x:Option aa}(h:i<m):(x::bB N f m)[nf 0 i]?=some (ma N (f i)):=by
 grind[nf,List.getElem?_cons_succ,uY]
def oP(f:GT)(i j:Nat)(v:Bool):GT:=λp q=>if p=i∧q=j then v else f p q
theorem tZ{N j:Nat}{g:Nat->Bool}{v:Bool}:(dK N g).set j [.v (.bool v)]=dK N (λq=>if q=j then v else g q):=by
 refine agf (by simp[dK]) λq A u=>?_;rw[List.getElem_set];simp only[dK,agh,List.getElem_range]
 grind
theorem AZ{N:Nat}{f:GT}{j:Nat}{v:Bool}:∀{m i:Nat},i<m->(bB N f m).set (2*i) (some ⟨4,1,true,(dK N (f i)).set j [.v (.bool v)]⟩)=bB N (oP f i j v) m
 |0,_,h=>zd
 |m+1,i,h=>by
  rw[gh,gh]
  by_cases hi:i<m
  ·have e:ma N (oP f i j v m)=ma N (f m):=by
    rw[ma,ma,oO (λq _=>by rw[oP,if_neg zd])]
   rw[List.set_append_left _ _ (by rw[ai];omega),AZ hi,e]
  ·obtain rfl:i=m:=zd
   rw[agc _ _ (by grind[ai]),ai,ae2,List.set_cons_zero];rw[gP (g:=oP f i j v) (h:=f) (λp q u _=>by rw[oP,if_neg zd])]
   congr 2
   rw[ma,tZ]
   congr 2
   refine oO λq _=>?_;rw[oP]
   grind
theorem pT{N m i j:Nat}{f:GT}{v:Bool}{x:Option aa}(h:i<m):(x::bB N f m).set (nf 0 i) (some ⟨4,1,true,(dK N (f i)).set j [.v (.bool v)]⟩)=x::bB N (oP f i j v) m:=by
 grind[nf,AZ]
theorem bp(n N:Nat)(g:Nat->Bool):bE n (dK N g)=true:=bt _ (λ_=>rfl) _
theorem gJ(n N:Nat)(f:GT):bE n (mH N f)=true:=bt _ (λi=>by grind[aQ,AV.wf,bp,Bool.and_self]) _
attribute [go_sem] bp gJ lf xd dC
theorem GL(n:Nat):∀(a:List C5)(b:C5),bE n (a++[b])=(bE n a&&aQ n b)
 | [],b=>by simp[bE]
 |x::a,b=>by simp only[afz,bE,GL n a b,Bool.and_assoc]
theorem l6{n k N:Nat}:∀{m:Nat},k+2*m<=n->bE n (bw k N m)=true
 |0,_=>rfl
 |m+1,h=>by
  rw[fy,GL,l6 zd]
  have q:nf k m<n:=by unfold nf;omega
  simp[bE,aQ,AV.wf,q]
theorem tv(N:Nat)(f:GT):sw (cA 0 N N f) (.vec 0 N) (.aA 1 (mH N f) N):=by
 refine sw.U3 (ob:=⟨121,1,true,bw 0 N N⟩) rfl rfl (dC _ _ _) (by grind[xd,dC]) λi row row' H A=>?_
 have hi:i<N:=by grind[aek,dC]
 have U:(bw 0 N N)[i]?=some [.vec (nf 0 i) N]:=by grind[bw,aev]
 have O:(mH N f)[i]?=some [.aA 1 (dK N (f i)) N]:=by grind[mH,aev]
 cases(aec (U.symm.trans H));cases(aec (O.symm.trans A));refine⟨rfl,λj c W q u=>?_⟩
 match j,q,u with
 |0,q,u=>
  cases q;cases u;exact sw.vec (ob:=⟨4,1,true,dK N (f i)⟩) (mU (k:=0) hi) rfl (lf _ _) (Bl _ (λs c V=>by grind) _)
 |j+1,q,u=>simp at q
end
end Go.Proofs.YtlhhccmopfamhaaGreatDoor
