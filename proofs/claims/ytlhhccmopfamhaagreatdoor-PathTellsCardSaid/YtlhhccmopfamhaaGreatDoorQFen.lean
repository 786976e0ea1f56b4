/- texts of one claim, one behind the other. -/
import Derived.MapKept
import Derived.Laws.StructEq
import Derived.Test.YtlhhccmopfamhaaGreatDoorQAbs
import Derived.Attr
import Derived.WalkKit
import Derived.WalkSpells
import Derived.WalkLawsBesides
import Derived.Lib.Hide
import Derived.Still
import Derived.Tactics
import Derived.KernelRfl
import Derived.StillTactics
import Derived.RangeFuncNested
import Derived.RangeFuncLeaves
import Derived.RangeFuncRecord
set_option linter.unusedSimpArgs false
set_option linter.unusedVariables false
set_option maxRecDepth 100000
set_option maxHeartbeats 16000000
open Array renaming getElem?_push_lt -> aeZ, getElem?_push -> ae0
open Bool renaming true_eq -> aeY, not_eq_true -> ae1
open List renaming length_eq_one_iff -> aeU, drop_eq_nil_of_le -> aeV, headD_cons -> aeW, getElem?_eq_some_iff -> aeu, getElem?_set_ne -> aeH, getElem?_append_left -> aet, mem_of_getElem? -> aeQ
open Nat renaming lt_or_ge -> aes, le_refl -> aen
open Option renaming map_eq_some_iff -> aeX
open Option.some renaming injEq -> aez
open Prod.mk renaming injEq -> aeA
namespace Go.Proofs.YtlhhccmopfamhaaGreatDoor
open Go.RowKit
section
open Go.RowKit Go.MapKept
section
variable {D:Nat->Prop} {nu:EQ} {o:AC} {w:World} {P:Program}
inductive FK where
 |b|i|s
abbrev Nm:=List FK
def kv:FK->Value->Value->Option Bool
 | .b,.bool x,.bool y=>some (x==y)
 | .i,.int k x,.int k' y=>if k=k' then some (x==y)else none
 | .s,.string x,.string y=>some (x.toList==y.toList)
 |_,_,_=>none
def sV:Nm->IR->IR->Option Bool
 | [],[],[]=>some true
 |k::ks,x::xs,y::ys=>match kv k x y,sV ks xs ys with
  |some a,some b=>some (a&&b)
  |_,_=>none
 |_,_,_=>none
def Nj(P:Program)(g:TypeId->Option Nm):List Field->Nat->Option Nm
 | [],_=>some []
 |f::fs,off=>if f.name = "_" then none else match g f.type with
  |some ks=>if f.offset=off∧bQ P f.type=some ks.length then match Nj P g fs (off+ks.length)with
   |some r=>some (ks++r)
   |none=>none
   else none
  |none=>none
def NA(P:Program):Nat->TypeId->Option Nm
 |0,_=>none
 |d+1,T=>match P.underlying T with
  |some .bool=>some [.b]
  |some (.int _)=>some [.i]
  |some .string=>some [.s]
  |some (.struct fs)=>if P.stoodInHeld T then none else Nj P (NA P d) fs.toList 0
  |_=>none
def valOf(P:Program)(T:TypeId)(xs:IR):Value:=match P.underlying T with
 |some (.struct _)=> .agg xs.toArray
 |_=>xs.headD Go.undef
theorem wT:∀{ks:Nm}{xs ys:IR}{r:Bool},sV ks xs ys=some r->xs.length=ks.length∧ys.length=ks.length
 | [],[],[],_,_=>⟨rfl,rfl⟩
 | [],[],_::_,_,h=>by simp[sV]at h
 | [],_::_,_,_,h=>by simp[sV]at h
 |_::_,[],_,_,h=>by simp[sV]at h
 |_::_,_::_,[],_,h=>by simp[sV]at h
 |k::ks,x::xs,y::ys,r,h=>by
  simp only[sV]at h
  split at h
  ·rename_i a b A e2;obtain⟨u,q⟩:=wT e2;simp[u,q]
  ·cases h
theorem AD:∀{ks q:Nm}{xs ys:IR}{r:Bool},sV (ks++q) xs ys=some r->∃a b,sV ks (xs.take ks.length) (ys.take ks.length)=some a∧sV q (xs.drop ks.length) (ys.drop ks.length)=some b∧r=(a&&b)
 | [],q,xs,ys,r,h=>⟨true,r,by simp[sV],by simpa using h,zk⟩
 |k::ks,q,[],_,_,h=>by simp[sV]at h
 |k::ks,q,_::_,[],_,h=>by simp[sV]at h
 |k::ks,q,x::xs,y::ys,r,h=>by
  simp only[List.cons_append,sV]at h
  split at h
  ·rename_i a b O e2;cases h;obtain⟨c,d,H,A,u⟩:=AD e2;refine⟨a&&c,d,?_,by simpa using A,by rw[u,Bool.and_assoc]⟩;simp[sV,O,H]
  ·cases h
theorem y0{d:Nat}{T:TypeId}{ks:Nm}(h:NA P d T=some ks)(H:bQ P T=some ks.length){xs:IR}{off:Nat}(hl:off+ks.length<=xs.length) :
  (part T xs.toArray off).run P w=.ok (valOf P T ((xs.drop off).take ks.length)) w:=by
 cases d with
 |zero=>simp[NA]at h
 |succ d=>
  simp only[NA]at h
  have one:∀dd,P.underlying T=some dd->dc P T=some false->ks.length=1->valOf P T ((xs.drop off).take ks.length)=((xs.drop off).take ks.length).headD Go.undef->(part T xs.toArray off).run P w=.ok (valOf P T ((xs.drop off).take ks.length)) w:=by
   intro dd q A O hv;rw[hv,O]
   have u:off<xs.length:=zd
   have U:xs.toArray[off]?=some xs[off]:=by simp[u]
   have e:((xs.drop off).take 1).headD Go.undef=xs[off]:=by rw[List.drop_eq_getElem_cons u];rfl
   rw[e];simp[part,iT A,u]
  split at h
  ·rename_i q;cases h;exact one _ q (by simp[dc,q]) rfl (by simp[valOf,q])
  ·rename_i q;cases h;exact one _ q (by simp[dc,q]) rfl (by simp[valOf,q])
  ·rename_i q;cases h;exact one _ q (by simp[dc,q]) rfl (by simp[valOf,q])
  ·rename_i fs q
   have A:dc P T=some true:=by simp[dc,q]
   simp only[valOf,q];simp only[part,Sem.run_bind,iT A,Result.andThen_ok,if_true,run_sizeOf H,Sem.run_pure]
   congr 2
   apply Array.ext'
   simp[List.take_drop]
  ·cases h
theorem Co{k:FK}{xs ys:IR}{r:Bool}(h:sV [k] xs ys=some r):∃x y,xs=[x]∧ys=[y]∧kv k x y=some r:=by
 obtain⟨u,q⟩:=wT h;obtain⟨x,rfl⟩:=aeU.1 u;obtain⟨y,rfl⟩:=aeU.1 q;refine⟨x,y,rfl,rfl,?_⟩;simp only[sV]at h
 split at h
 ·rename_i a b A e2;cases e2;cases h;rw[A,Bool.and_true]
 ·cases h
theorem Zc{x y:Value}{r:Bool}(h:kv .b x y=some r):∃a b,x=.bool a∧y=.bool b∧r=(a==b):=by
 cases x<;>cases y<;>simp[kv]at h;exact⟨_,_,rfl,rfl,h.symm⟩
theorem Ze{x y:Value}{r:Bool}(h:kv .s x y=some r):∃a b,x=.string a∧y=.string b∧r=(a.toList==b.toList):=by
 cases x<;>cases y<;>simp[kv]at h;exact⟨_,_,rfl,rfl,by simpa using h.symm⟩
theorem Zd{x y:Value}{r:Bool}(h:kv .i x y=some r):∃k a b,x=.int k a∧y=.int k b∧r=(a==b):=by
 cases x<;>cases y<;>simp[kv]at h;obtain⟨rfl,h⟩:=h;exact⟨_,_,_,rfl,rfl,h.symm⟩
def NS(P:Program)(d:Nat):Prop:=∀(T:TypeId)(ks:Nm),NA P d T=some ks->∀(d':Nat),d<=d'->∀(xs ys:IR)(r:Bool)(w:World),sV ks xs ys=some r->(Op.equalIn d' T (valOf P T xs) (valOf P T ys)).run P w=.ok r w
theorem BD{d:Nat}(ih:NS P d):∀(fs:List Field)(off:Nat)(ks:Nm),Nj P (NA P d) fs off=some ks->∀(d':Nat),d<=d'->∀(xs ys:IR)(r:Bool)(w:World),sV ks (xs.drop off) (ys.drop off)=some r ->
  off+ks.length=xs.length->off+ks.length=ys.length->(Op.eqFields d' xs.toArray ys.toArray fs).run P w=.ok r w
 | [],off,ks,h,d',Y,xs,ys,r,w,u,U,O=>by
  simp only[Nj,aez]at h;subst h;have A:xs.drop off=[]:=aeV (by simp at U;omega);have e2:ys.drop off=[]:=aeV (by simp at O;omega);rw[A,e2]at u;simp only[sV,aez]at u;subst u;simp[Op.eqFields]
 |f::fs,off,ks,h,d',Y,xs,ys,r,w,u,U,O=>by
  simp only[Nj]at h
  split at h
  ·cases h
  ·rename_i hname
   split at h
   ·rename_i H A
    split at h
    ·rename_i hc
     split at h
     ·rename_i k2 e2;cases h;obtain⟨rfl,q⟩:=hc;obtain⟨a,b,h1,h2,h3⟩:=AD u;rw[List.drop_drop,List.drop_drop]at h2;have hrest:=BD ih fs (f.offset+H.length) k2 e2 d' Y xs ys b w (by simpa [Nat.add_comm]using h2) (by simp at U;omega) (by simp at O;omega);have hhead:=ih f.type H A d' Y _ _ a w h1
      have W:f.offset+H.length<=xs.length:=by simp at U;omega
      have V:f.offset+H.length<=ys.length:=by simp at O;omega
      simp only[Op.eqFields,ne_eq,hname,not_false_eq_true,if_true,Sem.run_bind,y0 A q W,y0 A q V,Result.andThen_ok,hhead];subst h3
      cases a
      ·simp
      ·simpa using hrest
     ·cases h
    ·cases h
   ·cases h
theorem Gm:∀(d:Nat),NS P d
 |0=>λT ks h=>by simp[NA]at h
 |d+1=>λT ks h d' Y xs ys r w H=>by
  obtain⟨d',rfl⟩:∃m,d'=m+1:=⟨d' - 1,zd⟩;simp only[NA]at h
  split at h
  ·rename_i q;cases h;obtain⟨x,y,rfl,rfl,u⟩:=Co H;obtain⟨a,b,rfl,rfl,rfl⟩:=Zc u;simp only[valOf,q,aeW];exact run_equalIn_bool' w d' T a b q
  ·rename_i k q;cases h;obtain⟨x,y,rfl,rfl,u⟩:=Co H;obtain⟨O,a,b,rfl,rfl,rfl⟩:=Zd u;simp only[valOf,q,aeW];exact run_equalIn_int w d' T O k a b q
  ·rename_i q;cases h;obtain⟨x,y,rfl,rfl,u⟩:=Co H;obtain⟨a,b,rfl,rfl,rfl⟩:=Ze u;simp only[valOf,q,aeW];exact run_equalIn_string w d' T a b q
  ·rename_i fs q
   split at h
   ·cases h
   ·rename_i U
    have A:P.fieldsOf T=fs:=by simp[Program.fieldsOf,q]
    simp only[valOf,q];rw[run_equalIn_struct w d' T _ _ (by rw[A];exact q) (by simpa using U),A];obtain⟨W,V⟩:=wT H;exact BD (Gm d) fs.toList 0 ks h d' zd xs ys r w (by simpa using H) zd zd
  ·cases h
def lS(P:Program)(T:TypeId):Option Nm:=if P.eqGuardType P.depth T then none else match P.underlying T with
 |some (.struct _)=>NA P 12 T
 |_=>none
def lB:Nm->C5->C5->Option Bool
 | [],[],[]=>some true
 |k::ks,.v x::xs,.v y::ys=>match kv k x y,lB ks xs ys with
  |some a,some b=>some (a&&b)
  |_,_=>none
 |_,_,_=>none
theorem qg:∀{ks:Nm}{cs ds:C5}{r:Bool},lB ks cs ds=some r->∃xs ys,cs=xs.map AV.v∧ds=ys.map AV.v∧sV ks xs ys=some r
 | [],[],[],_,h=>⟨[],[],rfl,rfl,by simpa [lB,sV]using h⟩
 | [],[],_::_,_,h=>by simp[lB]at h
 | [],_::_,_,_,h=>by simp[lB]at h
 |k::ks,cs,ds,r,h=>by
  unfold lB at h
  split at h
  ·exact absurd ‹k::ks=[]› zk
  ·rename_i U A x xs y ys e;cases e
   split at h
   ·rename_i a b O e2;obtain⟨u,q,rfl,rfl,H⟩:=qg e2;refine⟨x::u,y::q,rfl,rfl,?_⟩;simp only[sV,O,H];exact h
   ·cases h
  ·cases h
theorem RA.RF{a:AV}{x y:Value}(h:RA D nu o w a y)(e:a=.v x):y=x:=by subst e;cases h;rfl
theorem RA.di{x y:Value}(h:RA D nu o w (.v x) y):y=x:=by cases h;rfl
theorem j0{xs:IR}{x:Value}(h:RA D nu o w (.agg (xs.map AV.v)) x):x=.agg xs.toArray:=by
 cases h with
 |agg _ ys A u O=>
  congr 1
  apply Array.ext
  ·simpa using A.symm
  ·intro i q q2
   have H:(xs.map AV.v)[i]?=some (.v xs[i]):=by simp at q2;simp[q2]
   have:=(u i _ _ H (Array.getElem?_eq_getElem q)).di
   simp[this]
theorem pt{T:TypeId}{cs ds:C5}{x y:Value}{ks:Nm}{rr:Bool}(q:lS P T=some ks)(U:lB ks cs ds=some rr)(A:RA D nu o w (.agg cs) x)(u:RA D nu o w (.agg ds) y):∃xs ys,x=.agg xs∧y=.agg ys∧P.eqGuardType P.depth T=false∧(Op.equalIn 10000 T (.agg xs) (.agg ys)).run P w=.ok rr w:=by
 unfold lS at q
 split at q
 ·cases q
 ·rename_i H
  split at q
  ·rename_i fs hu;obtain⟨xs,ys,rfl,rfl,O⟩:=qg U;refine⟨_,_,j0 A,j0 u,by simpa using H,?_⟩
   have:=Gm (P:=P) 12 T ks q 10000 zd xs ys rr w O
   simpa only[valOf,hu]using this
  ·cases q
end
open Go.RowKit Go.MapKept
def dH:TypeDesc->Value->Bool
 | .int k,.int k' _=>decide (k=k')
 | .string,.string _=>true
 | .bool,.bool _=>true
 |_,_=>false
theorem gv{d:TypeDesc}{k:Value}(h:dH d k=true):IsKey d k:=by
 cases d<;>cases k<;>simp_all[dH,IsKey]
theorem sG{s t:ByteArray}(h:s.toList=t.toList):s=t:=by
 rw[ByteArray.toList_eq,ByteArray.toList_eq]at h;obtain⟨⟨a⟩⟩:=s;simp_all
def fx:Value->Value->Bool
 | .int _ a,.int _ b=>a==b
 | .string a,.string b=>a.toList==b.toList
 | .bool a,.bool b=>a==b
 |_,_=>false
theorem yw{d:TypeDesc}{a b:Value}(u:dH d a=true)(q:dH d b=true):Instr.sameNow d a b=some (fx a b)∧(fx a b=true->b=a):=by
 cases d<;>cases a<;>simp only[dH,Bool.false_eq_true,decide_eq_true_eq]at u<;>cases b<;>simp only[dH,Bool.false_eq_true,decide_eq_true_eq]at q
 ·simp only[Instr.sameNow,fx,true_and,beq_iff_eq];grind
 ·subst u;subst q;simp only[Instr.sameNow,fx,if_true,true_and,beq_iff_eq];grind
 ·rename_i x y
  have e:(x==y)=(x.toList==y.toList):=by
   rw[Bool.eq_iff_iff,bytes_beq,beq_iff_eq]
   grind[sG]
  simp only[Instr.sameNow,fx,e,true_and,beq_iff_eq,Value.string.injEq]
  grind[sG]
theorem RA.plain{D:Nat->Prop}{nu:EQ}{o:AC}{w:World}{x y:Value}(h:RA D nu o w (.v x) y):y=x:=by cases h;rfl
def o5(d:TypeDesc)(k:Value):List C5->Option (Option AV)
 | []=>some none
 | [.v k',x]::l=>if dH d k' then if fx k k' then some (some x)else o5 d k l else none
 |_=>none
def nz(d:TypeDesc)(k:Value)(x:AV):List C5->Option (List C5)
 | []=>some [[.v k,x]]
 | [.v k',y]::l=>if dH d k' then if fx k k' then some ([.v k,x]::l)else(nz d k x l).map ([.v k',y] :: ·)else none
 |_=>none
section
variable {D:Nat->Prop} {nu:EQ} {o:AC} {w:World} {P:Program}
theorem uv{d:TypeDesc}{k:Value}(U:dH d k=true):∀(rows:List C5)(es:List MapEntry)(i:Nat)(r:Option AV),es.length=rows.length->(∀(j:Nat)row c e,rows[j]?=some row->row[0]?=some c->es[j]?=some e->RA D nu o w c e.key)->o5 d k rows=some r ->
  (r=none∧Instr.findNow d k es i=some none)∨∃j c e row,r=some c∧Instr.findNow d k es i=some (some (i+j,e.val))∧rows[j]?=some row∧row[1]?=some c∧es[j]?=some e
 | [],[],i,r,_,_,h=>by
  simp only[o5,aez]at h;exact .inl ⟨h.symm,rfl⟩
 | [],_::_,i,r,hl,_,_=>by simp at hl
 |_::_,[],i,r,hl,_,_=>by simp at hl
 |row::l,e::es,i,r,hl,H,h=>by
  unfold o5 at h
  split at h
  ·grind
  ·rename_i A x l' e1;cases e1
   split at h
   ·rename_i hk';have O:e.key=A:=(H 0 _ (.v A) e rfl rfl rfl).plain;obtain⟨h1,h2⟩:=yw U hk'
    split at h
    ·rename_i he;cases h;refine .inr ⟨0,x,e,_,rfl,?_,rfl,rfl,rfl⟩
     grind[Instr.findNow]
    ·rename_i he
     have Y:fx k A=false:=by grind
     rcases uv U l es (i+1) r (by grind) (λj row c e u q W=>H (j+1) row c e (by grind) q (by grind)) h with⟨u,q⟩|⟨j,c,e2,row2,u,q,W,V,q5⟩
     ·grind[Instr.findNow]
     ·exact .inr ⟨j+1,c,e2,row2,u,by grind[Instr.findNow],by grind,V,by grind⟩
   ·cases h
  ·cases h
theorem Ao{d:TypeDesc}{k:Value}{x:AV}(V:dH d k=true):∀(rows:List C5)(es:List MapEntry)(i:Nat)(rows':List C5),es.length=rows.length->(∀(j:Nat)row c e,rows[j]?=some row->row[0]?=some c->es[j]?=some e->RA D nu o w c e.key)->nz d k x rows=some rows' ->
  (rows'=rows++[[.v k,x]]∧Instr.findNow d k es i=some none)∨∃j e,rows'=rows.set j [.v k,x]∧Instr.findNow d k es i=some (some (i+j,e.val))∧es[j]?=some e∧e.key=k
 | [],[],i,r,_,_,h=>by
  simp only[nz,aez]at h;exact .inl ⟨h.symm,rfl⟩
 | [],_::_,i,r,hl,_,_=>by simp at hl
 |_::_,[],i,r,hl,_,_=>by simp at hl
 |row::l,e::es,i,r,hl,O,h=>by
  unfold nz at h
  split at h
  ·grind
  ·rename_i A y l' e1;cases e1
   split at h
   ·rename_i hk';have U:e.key=A:=(O 0 _ (.v A) e rfl rfl rfl).plain;obtain⟨h1,h2⟩:=yw V hk'
    split at h
    ·rename_i he;cases h;refine .inr ⟨0,e,rfl,?_,rfl,by grind⟩
     grind[Instr.findNow]
    ·rename_i he
     have he':fx k A=false:=by grind
     obtain⟨W,H,rfl⟩:=aeX.1 h
     rcases Ao V l es (i+1) W (by grind) (λj row c e u q q3=>O (j+1) row c e (by grind) q (by grind)) H with⟨u,q⟩|⟨j,e2,u,q,q3,Y⟩
     ·grind[Instr.findNow]
     ·exact .inr ⟨j+1,e2,by rw[u];rfl,by grind[Instr.findNow],by grind,Y⟩
   ·cases h
  ·cases h
def kK(ks:Nm)(k:C5):List C5->Option (Option AV)
 | []=>some none
 | [.agg k',x]::l=>match lB ks k k' with
  |some true=>some (some x)
  |some false=>kK ks k l
  |none=>none
 |_=>none
def l8(ks:Nm)(k:C5)(x:AV):List C5->Option (List C5)
 | []=>some [[.agg k,x]]
 | [.agg k',y]::l=>match lB ks k k' with
  |some true=>some ([.agg k,x]::l)
  |some false=>(l8 ks k x l).map ([.agg k',y] :: ·)
  |none=>none
 |_=>none
theorem EU:∀{ks:Nm}{xs ys:IR},sV ks xs ys=some true->xs=ys∧∀x∈xs,∀n,Instr.sameBits n x x=true
 | [],[],[],_=>⟨rfl,λx h=>by cases h⟩
 | [],[],_::_,h=>by grind[sV]
 | [],_::_,_,h=>by grind[sV]
 |_::_,[],_,h=>by grind[sV]
 |_::_,_::_,[],h=>by grind[sV]
 |k::ks,x::xs,y::ys,h=>by
  simp only[sV]at h
  split at h
  ·rename_i a b q e2;simp only[aez,Bool.and_eq_true]at h;obtain⟨rfl,rfl⟩:=h;obtain⟨rfl,A⟩:=EU e2
   have u:x=y∧∀n,Instr.sameBits n x x=true:=by
    cases k
    ·obtain⟨a,b,rfl,rfl,h⟩:=Zc q;simp only[aeY,beq_iff_eq]at h;subst h;exact⟨rfl,λn=>by grind[Instr.sameBits]⟩
    ·obtain⟨k,a,b,rfl,rfl,h⟩:=Zd q;simp only[aeY,beq_iff_eq]at h;subst h;exact⟨rfl,λn=>by grind[Instr.sameBits]⟩
    ·obtain⟨a,b,rfl,rfl,h⟩:=Ze q;simp only[aeY,beq_iff_eq]at h;obtain rfl:=sG h;exact⟨rfl,λn=>by grind[Instr.sameBits,bytes_beq]⟩
   grind
  ·cases h
theorem GN{n:Nat}:∀{l:IR},(∀x∈l,Instr.sameBits n x x=true)->(l.zip l).all (λp=>Instr.sameBits n p.1 p.2)=true
 | [],_=>rfl
 |x::l,h=>by
  simp only[List.zip_cons_cons,List.all_cons,Bool.and_eq_true];exact⟨h x List.mem_cons_self,GN λy q=>h y (List.mem_cons_of_mem _ q)⟩
theorem Aa{xs:Array Value}(h:∀x∈xs.toList,∀n,Instr.sameBits n x x=true):(Instr.keyThatStays (.agg xs) (.agg xs)).run P w=.ok (.agg xs) w:=by
 have e:Instr.sameBits 10000 (.agg xs) (.agg xs)=true:=by
  rw[show(10000:Nat)=9999+1 from rfl,Instr.sameBits];simp only[beq_self_eq_true,Bool.true_and];exact GN λx q=>h x q 9999
 simp[Instr.keyThatStays,e]
theorem sJ(em:Bool):∀(d:Nat)(T:TypeId)(ks:Nm),NA P d T=some ks->∀(n:Nat),d<=n->∀(w:World)(xs:IR),xs.length=ks.length->(Instr.checkKey em n T (valOf P T xs)).run P w=.ok () w
 |0,T,ks,h,_,_,_,_,_=>by grind[NA]
 |d+1,T,ks,h,n,hn,w,xs,hl=>by
  obtain⟨n,rfl⟩:∃m,n=m+1:=⟨n-1,zd⟩;simp only[NA]at h
  split at h
  ·rename_i q;simp[Instr.checkKey,run_underlying q]
  ·rename_i q;simp[Instr.checkKey,run_underlying q]
  ·rename_i q;simp[Instr.checkKey,run_underlying q]
  ·rename_i fs q
   split at h
   ·cases h
   ·have ih:=sJ em d;rw[show valOf P T xs=.agg xs.toArray by grind[valOf],Instr.checkKey];simp only[Sem.run_bind,run_underlying q,Result.andThen_ok];rw[<-Array.forIn_toList]
    have u:0+ks.length<=xs.length:=zd
    clear hl;generalize fs.toList=L at h;generalize 0=off at h u
    induction L generalizing off ks with
    |nil=>simp
    |cons f L ihL=>
     simp only[Nj]at h
     split at h
     ·cases h
     ·rename_i hname
      split at h
      ·rename_i A O
       split at h
       ·rename_i hc
        split at h
        ·rename_i W Y;cases h;obtain⟨rfl,H⟩:=hc;rw[List.length_append]at u;have V:=y0 (w:=w) O H (xs:=xs) (off:=f.offset) zd;have U:=ih f.type A O n zd w ((xs.drop f.offset).take A.length) ahy;simp only[List.forIn_cons,Sem.run_bind,hname,ne_eq,not_false_eq_true,if_true,Result.andThen_ok,V,U,Sem.run_pure];exact ihL W (f.offset+A.length) Y zd
        ·cases h
       ·cases h
      ·cases h
  ·cases h
theorem z8{kt:TypeId}{ks:Nm}(q:lS P kt=some ks)(em:Bool){xs:Array Value}(hl:xs.size=ks.length):(Instr.checkKey em 10000 kt (.agg xs)).run P w=.ok () w:=by
 unfold lS at q
 split at q
 ·cases q
 ·split at q
  ·rename_i fs hu
   have:=sJ (P:=P) em 12 kt ks q 10000 zd w xs.toList zd
   simpa only[valOf,hu]using this
  ·cases q
theorem Rp{kt:TypeId}{ks:Nm}(q:lS P kt=some ks):∃fs,P.underlying kt=some (.struct fs):=by
 grind[lS]
theorem cv{kt:TypeId}{ks:Nm}(u:lS P kt=some ks)(k:Value)(es:List MapEntry):(Instr.findKey kt k es).run P w=(Instr.findAsking kt k es 0).run P w:=by
 obtain⟨fs,q⟩:=Rp u
 cases es with
 |nil=>simp[Instr.findKey,run_underlying q,Instr.findNow,Instr.findAsking]
 |cons e es=>simp[Instr.findKey,run_underlying q,Instr.findNow,Instr.sameNow]
theorem rn{kt:TypeId}{ks:Nm}(W:lS P kt=some ks){k:C5}{kx:Value}(Y:RA D nu o w (.agg k) kx):∀(rows:List C5)(es:List MapEntry)(i:Nat)(r:Option AV),es.length=rows.length->(∀(j:Nat)row c e,rows[j]?=some row->row[0]?=some c->es[j]?=some e->RA D nu o w c e.key)->kK ks k rows=some r ->
  (r=none∧(Instr.findAsking kt kx es i).run P w=.ok none w)∨∃j c e row,r=some c∧(Instr.findAsking kt kx es i).run P w=.ok (some (i+j,e.val)) w∧rows[j]?=some row∧row[1]?=some c∧es[j]?=some e
 | [],[],i,r,_,_,h=>by
  simp only[kK,aez]at h;exact .inl ⟨h.symm,by simp[Instr.findAsking]⟩
 | [],_::_,i,r,hl,_,_=>by simp at hl
 |_::_,[],i,r,hl,_,_=>by simp at hl
 |row::l,e::es,i,r,hl,hr,h=>by
  unfold kK at h
  split at h
  ·cases ‹row::l=[]›
  ·rename_i k' x l' e1;cases e1;have H:=hr 0 _ (.agg k') e rfl rfl rfl
   split at h
   ·rename_i he;cases h;obtain⟨xs,ys,U,O,_,q⟩:=pt W he Y H;refine .inr ⟨0,x,e,_,rfl,?_,rfl,rfl,rfl⟩;rw[U,Instr.findAsking,O];simp[Op.equal,Op.maxDepth,q]
   ·rename_i he;obtain⟨xs,ys,U,O,_,q⟩:=pt W he Y H
    rcases rn W Y l es (i+1) r (by simpa using hl) (λj row c e A u V=>hr (j+1) row c e (by simpa using A) u (by simpa using V)) h with⟨A,u⟩|⟨j,c,e2,row2,A,u,V,q4,q5⟩
    ·refine .inl ⟨A,?_⟩;rw[<-U]at q;rw[Instr.findAsking,O];simp[Op.equal,Op.maxDepth,q,u]
    ·refine .inr ⟨j+1,c,e2,row2,A,?_,by simpa using V,q4,by simpa using q5⟩;rw[<-U]at q;rw[Instr.findAsking,O];simp[Op.equal,Op.maxDepth,q,u];omega
   ·cases h
  ·cases h
theorem ru{kt:TypeId}{ks:Nm}(ht:lS P kt=some ks){k:C5}{kx:Value}{x:AV}(O:RA D nu o w (.agg k) kx):∀(rows:List C5)(es:List MapEntry)(i:Nat)(rows':List C5),es.length=rows.length->(∀(j:Nat)row c e,rows[j]?=some row->row[0]?=some c->es[j]?=some e->RA D nu o w c e.key)->l8 ks k x rows=some rows' ->
  (rows'=rows++[[.agg k,x]]∧(Instr.findAsking kt kx es i).run P w=.ok none w)∨∃j e,rows'=rows.set j [.agg k,x]∧(Instr.findAsking kt kx es i).run P w=.ok (some (i+j,e.val)) w∧es[j]?=some e∧e.key=kx∧(Instr.keyThatStays kx kx).run P w=.ok kx w
 | [],[],i,r,_,_,h=>by
  simp only[l8,aez]at h;exact .inl ⟨h.symm,by simp[Instr.findAsking]⟩
 | [],_::_,i,r,hl,_,_=>by simp at hl
 |_::_,[],i,r,hl,_,_=>by simp at hl
 |row::l,e::es,i,r,hl,hr,h=>by
  unfold l8 at h
  split at h
  ·cases ‹row::l=[]›
  ·rename_i k' y l' W;cases W;have q:=hr 0 _ (.agg k') e rfl rfl rfl
   split at h
   ·rename_i U;cases h;obtain⟨xs',ys',rfl,rfl,h3⟩:=qg U;obtain⟨rfl,hb⟩:=EU h3;obtain⟨xs,ys,h1,V,_,H⟩:=pt ht U O q;have W:=j0 O;have e2:=j0 q;refine .inr ⟨0,e,rfl,?_,rfl,by rw[W,e2],by rw[W];exact Aa λx hx=>hb x (by simpa using hx)⟩;rw[h1,Instr.findAsking,V];simp[Op.equal,Op.maxDepth,H]
   ·rename_i U;obtain⟨r2,hr2,rfl⟩:=aeX.1 h;obtain⟨xs,ys,h1,V,_,H⟩:=pt ht U O q;rw[<-h1]at H
    rcases ru ht O l es (i+1) r2 (by simpa using hl) (λj row c e A u Y=>hr (j+1) row c e (by simpa using A) u (by simpa using Y)) hr2 with⟨A,u⟩|⟨j,e2,A,u,Y,q4,q5⟩
    ·refine .inl ⟨by rw[A];rfl,?_⟩;rw[Instr.findAsking,V];simp[Op.equal,Op.maxDepth,H,u]
    ·refine .inr ⟨j+1,e2,by rw[A];rfl,?_,by simpa using Y,q4,q5⟩;rw[Instr.findAsking,V];simp[Op.equal,Op.maxDepth,H,u];omega
   ·cases h
  ·cases h
def Lf(P:Program)(T:TypeId)(o:AC):AV->Option (TypeDesc×TypeId×Nat×aa)
 | .vec id 0=>match P.underlying T with
  |some (.map kt et)=>match P.underlying kt,o[id]? with
   |some d,some (some ob)=>some (d,et,id,ob)
   |_,_=>none
  |_=>none
 |_=>none
theorem Ak{T:TypeId}{m:AV}{d:TypeDesc}{et:TypeId}{id:Nat}{ob:aa}{v:Value}(h:RO D nu o w)(U:RA D nu o w m v)(q:Lf P T o m=some (d,et,id,ob))(hV:ob.fe=false)(Y:ob.z=0) :
  ∃kt g es cl,P.underlying T=some (.map kt et)∧P.underlying kt=some d∧o[id]?=some (some ob)∧v=.map (some g)∧B2 D nu o w id ob g es cl:=by
 unfold Lf at q
 split at q
 ·split at q
  ·rename_i kt W H
   split at q
   ·rename_i d' ob' V A;cases q;cases U
    rcases h.obj id ob A with⟨e1,_⟩|⟨g,cur,O⟩|⟨g,es,cl,u⟩
    ·grind
    ·have:=O.z;omega
    ·exact⟨kt,g,es,cl,H,V,A,u.wC,u⟩
   ·cases q
  ·cases q
 ·cases q
theorem Df(h:RO D nu o w)(P:Program)(T:TypeId):Good D nu o w ((Instr.makeMap T none).run P w) (.vec o.length 0) (o++[some ⟨T,0,false,[]⟩]):=by
 have u:Below w.heap.size w (w.alloc (.map #[] 0)):=(Below.refl _ _).alloc (Nat.le_refl _) _
 have q:∀b,dX (Value.map (some w.heap.size))=some b->w.heap.size<=b:=λb e=>by cases e;omega
 have A:=iR (nu:=nu) (o:=o) (ob:=⟨T,0,false,[]⟩) u q;refine⟨_,_,iD nu o.length (.map (some w.heap.size)),rfl,A,ov h u q (.inr (.inr ⟨w.heap.size, #[],0,(MapKept.heap_alloc w _).1,h.up _ (Nat.le_refl _),bW _ _ _ _,rfl,rfl,rfl,λi row hi=>by simp at hi,λi row c e hi=>by simp at hi,λi row c e hi=>by simp at hi,λi e hi=>by simp at hi,λi j e O hi=>by simp at hi⟩)),?_⟩
 have:=RA.vec (D:=D) (nu:=iD nu o.length (.map (some w.heap.size))) (o:=o++[some ⟨T,0,false,[]⟩]) (w:=w.alloc (.map #[] 0)) o.length 0 ⟨_,List.getElem?_concat_length,λx H=>Nat.zero_le _⟩ (by rw[bW];rfl)
 rwa [bW]at this
theorem UM{w':World}{id:Nat}{ob ob':aa}(h:RO D nu o w)(ho:o[id]?=some (some ob))(hl:ob'.hl=ob.hl){g:Nat}(hg:dX (nu id ob.hl)=some g)
  (Y:cf nu o w nu (o.set id (some ob')) w')(h5:∀b,b≠g->w'.heap[b]?=w.heap[b]?){es:Array MapEntry}{cl:Nat}(hn:B2 D nu (o.set id (some ob')) w' id ob' g es cl):RO D nu (o.set id (some ob')) w':=by
 have hlt:=(aeu.1 ho).1
 refine⟨?_,λb hb=>h.up b (Nat.le_trans Y.size hb),?_,h.gl.mono Y (λ_ _ h=>h)⟩
 ·intro u ob'' U
  by_cases he:id=u
  ·grind
  ·rw[aeH he]at U
   rcases h.obj u ob'' U with e|⟨O,cur',A⟩|⟨O,es,cl,W⟩
   ·exact .inl e
   ·have H:O≠g:=λe=>h.sep id u ob ob'' g ho U he hg (by rw[<-e];exact A.b7);exact .inr (.inl ⟨O,cur',(h5 O H).trans A.e9,A.oR,A.box,A.vec,A.z,A.row,λi j row c x q1 q2 q3=>(A.cell i j row c x q1 q2 q3).mono Y (λ_ _ h=>h),A.one⟩)
   ·have H:O≠g:=λe=>h.sep id u ob ob'' g ho U he hg (by rw[<-e];exact W.b7);exact .inr (.inr ⟨O,es,cl,W.tr (h5 O H) (λh=>h) rfl (λi j row c x _ _ A=>A.mono Y (λ_ _ h=>h))⟩)
 ·intro i1 i2 b1 b2 b U k2 H k3
  have key:∀(u:Nat)(ob'':aa),(o.set id (some ob'))[u]?=some (some ob'')->∃V:aa,o[u]?=some (some V)∧V.hl=ob''.hl:=λu ob'' q=>by
   grind
  obtain⟨o1,m1,n1⟩:=key i1 b1 U;obtain⟨o2,m2,n2⟩:=key i2 b2 k2;rw[<-n2];rw[<-n1]at k3;exact h.sep i1 i2 o1 o2 b m1 m2 H k3
theorem pP{T kt et:TypeId}{x kc:AV}{k vx:Value}{id g cl:Nat}{es:Array MapEntry}{ob:aa}{rows':List C5}(h:RO D nu o w)(hx:RA D nu o w x vx)(hkc:RA D nu o w kc k)(hu:P.underlying T=some (.map kt et))(ho:o[id]?=some (some ob))(u:B2 D nu o w id ob g es cl)(hV:ob.fe=false)(hz:ob.z=0)
  (hck:(Instr.checkKey false 10000 kt k).run P w=.ok () w)(hs:(rows'=ob.rows++[[kc,x]]∧(Instr.findKey kt k es.toList).run P w=.ok none w)∨∃j e,rows'=ob.rows.set j [kc,x]∧(Instr.findKey kt k es.toList).run P w=.ok (some (j,e.val)) w∧es.toList[j]?=some e∧e.key=k∧(Instr.keyThatStays k k).run P w=.ok k w) :
  ∃w',(Instr.mapUpdate T (.map (some g)) k vx).run P w=.ok () w'∧cf nu o w nu (o.set id (some {ob with rows:=rows'})) w'∧RO D nu (o.set id (some {ob with rows:=rows'})) w':=by
 have hlt:=(aeu.1 ho).1
 have hsz:es.toList.length=ob.rows.length:=by simpa using u.sz
 have hl:({ob with rows:=rows'}:aa).hl=ob.hl:=by grind[aa.hl]

 have fin:∀(H:Array MapEntry)(V:Nat),H.size=rows'.length->(∀(i:Nat)row,rows'[i]?=some row->row.length=2)->(∀(i:Nat)row c e,rows'[i]?=some row->row[0]?=some c->H[i]?=some e->RA D nu o w c e.key)->(∀(i:Nat)row c e,rows'[i]?=some row->row[1]?=some c->H[i]?=some e->RA D nu o w c e.val) ->
   (∀(i:Nat)e,H[i]?=some e->e.born<V)->(∀(i j:Nat)e e',H[i]?=some e->H[j]?=some e'->i<j->e.born<e'.born) ->
   cf nu o w nu (o.set id (some {ob with rows:=rows'})) {w with heap:=w.heap.setIfInBounds g (.map H V)}∧RO D nu (o.set id (some {ob with rows:=rows'})) {w with heap:=w.heap.setIfInBounds g (.map H V)}:=λH V p1 p2 p3 p4 p5 p6=>by
  have hh:=MapKept.heap_set (w:=w) (o':= .map H V) u.e9
  have hmono:cf nu o w nu (o.set id (some {ob with rows:=rows'})) {w with heap:=w.heap.setIfInBounds g (.map H V)}:=
   ko ho hl u.b7 rfl rfl rfl zk (λb hb=>hh.2 b hb)
  refine⟨hmono,UM h ho hl u.b7 hmono (λb hb=>hh.2 b hb) ⟨hh.1,u.oR,u.wC,hV,hz,p1,p2,λi row c e U W O=>(p3 i row c e U W O).mono hmono (λ_ _ h=>h),λi row c e U W O=>(p4 i row c e U W O).mono hmono (λ_ _ h=>h),p5,p6⟩⟩
 rcases hs with⟨rfl,hf⟩|⟨j,e0,rfl,hf,he0,hek,hst⟩
 ·refine⟨_,?_,fin (es.push {key:=k,val:=vx,born:=cl}) (cl+1) (by simp[u.sz]) (λi row hi=>?_) (λi row c e U W O=>?_) (λi row c e U W O=>?_) (λi e hi=>?_) (λi j e e' hi hj A=>?_)⟩
  ·simp[Instr.mapUpdate,run_underlying hu,MapKept.run_getObj_map u.e9,hck,hf,MapKept.run_setObj_map _ u.e9,Result.andThen]
  ·rcases aes i ob.rows.length with q|q
   ·rw[aet q]at hi;exact u.row i row hi
   grind
  ·rcases aes i ob.rows.length with q|q
   ·rw[aet q]at U;rw[aeZ (by grind)]at O;exact u.key i row c e U W (by grind)
   grind
  ·rcases aes i ob.rows.length with q|q
   ·rw[aet q]at U;rw[aeZ (by grind)]at O;exact u.val i row c e U W (by grind)
   grind
  ·rw[ae0]at hi
   split at hi
   ·grind
   ·exact Nat.lt_succ_of_lt (u.born i e hi)
  ·rw[ae0]at hi hj
   split at hj
   ·cases hj
    split at hi
    ·omega
    ·exact u.born i e hi
   ·split at hi
    ·grind
    ·exact u.qQ i j e e' hi hj A
 ·have hj0:es[j]?=some e0:=by grind
  have hjl:=(Array.getElem?_eq_some_iff.1 hj0).1
  have Y:∀i,(es.modify j λe=>{e with key:=k,val:=vx})[i]?=if j=i then(es[i]?).map (λe=>{e with key:=k,val:=vx})else es[i]? :=λi=>by grind
  have hbn:∀(i:Nat)e,(es.modify j λe=>{e with key:=k,val:=vx})[i]?=some e->∃e1,es[i]?=some e1∧e1.born=e.born:=λi e hi=>by
   grind
  refine⟨_,?_,fin (es.modify j λe=>{e with key:=k,val:=vx}) cl (by simp[u.sz]) (λi row hi=>?_) (λi row c e U W O=>?_) (λi row c e U W O=>?_) (λi e hi=>?_) (λi j' e e' hi hj A=>?_)⟩
  ·simp[Instr.mapUpdate,run_underlying hu,MapKept.run_getObj_map u.e9,hck,hf,hj0,hek,hst,MapKept.run_setObj_map _ u.e9,Result.andThen]
  ·by_cases A:j=i
   ·grind
   ·rw[aeH A]at hi;exact u.row i row hi
  ·rw[Y]at O
   by_cases A:j=i
   ·grind
   ·rw[aeH A]at U;rw[if_neg A]at O;exact u.key i row c e U W O
  ·rw[Y]at O
   by_cases A:j=i
   ·grind
   ·rw[aeH A]at U;rw[if_neg A]at O;exact u.val i row c e U W O
  ·obtain⟨e1,k1,k2⟩:=hbn i e hi;rw[<-k2];exact u.born i e1 k1
  ·obtain⟨e1,k1,k2⟩:=hbn i e hi;obtain⟨e2,k3,k4⟩:=hbn j' e' hj;rw[<-k2, <- k4];exact u.qQ i j' e1 e2 k1 k3 A
theorem yJ{T:TypeId}{m x:AV}{k v vx:Value}{d:TypeDesc}{et:TypeId}{id:Nat}{ob:aa}{rows':List C5}(h:RO D nu o w)(hm:RA D nu o w m v)(hx:RA D nu o w x vx)(ha:Lf P T o m=some (d,et,id,ob))(hV:ob.fe=false)(V:ob.z=0)(W:dH d k=true)
  (hs:nz d k x ob.rows=some rows'):∃w',(Instr.mapUpdate T v k vx).run P w=.ok () w'∧cf nu o w nu (o.set id (some {ob with rows:=rows'})) w'∧RO D nu (o.set id (some {ob with rows:=rows'})) w':=by
 obtain⟨kt,g,es,cl,hu,u,ho,rfl,q⟩:=Ak h hm ha hV V;have A:=gv W
 have H:es.toList.length=ob.rows.length:=by simpa using q.sz
 refine pP h hx (.v k) hu ho q hV V (run_checkKey u A _ _) ?_
 rcases Ao W ob.rows es.toList 0 rows' H (λj row c e q1 q2 q3=>q.key j row c e q1 q2 (by grind)) hs with⟨h1,Y⟩|⟨j,e0,h1,Y,U,O⟩
 ·grind[run_findKey]
 ·exact .inr ⟨j,e0,h1,by rw[run_findKey u Y,Nat.zero_add],U,O,run_keyThatStays A⟩
def sx(P:Program)(T:TypeId)(o:AC):AV->Option (TypeId×TypeId×Nat×aa)
 | .vec id 0=>match P.underlying T,o[id]? with
  |some (.map kt et),some (some ob)=>some (kt,et,id,ob)
  |_,_=>none
 |_=>none
theorem rq{T:TypeId}{m:AV}{kt et:TypeId}{id:Nat}{ob:aa}{v:Value}(h:RO D nu o w)(V:RA D nu o w m v)(q:sx P T o m=some (kt,et,id,ob))(hV:ob.fe=false)(Y:ob.z=0) :
  ∃g es cl,P.underlying T=some (.map kt et)∧o[id]?=some (some ob)∧v=.map (some g)∧B2 D nu o w id ob g es cl:=by
 unfold sx at q
 split at q
 ·split at q
  ·rename_i H W ob' O A;cases q;cases V
   rcases h.obj id ob A with⟨e1,_⟩|⟨g,cur,U⟩|⟨g,es,cl,u⟩
   ·grind
   ·have:=U.z;omega
   ·exact⟨g,es,cl,O,A,u.wC,u⟩
  ·cases q
 ·cases q
theorem HY{kt:TypeId}{ks:Nm}{k:C5}{kx:Value}(u:lS P kt=some ks)(A:RA D nu o w (.agg k) kx)(q:lB ks k k=some true)(em:Bool):(Instr.checkKey em 10000 kt kx).run P w=.ok () w:=by
 obtain⟨xs,_,rfl,_,H⟩:=qg q;rw[j0 A];exact z8 u em (by simpa using(wT H).1)
theorem kE{T:TypeId}{m x:AV}{k:C5}{kx v vx:Value}{kt et:TypeId}{ks:Nm}{id:Nat}{ob:aa}{rows':List C5}(h:RO D nu o w)(hm:RA D nu o w m v)(O:RA D nu o w (.agg k) kx)(hx:RA D nu o w x vx)(ha:sx P T o m=some (kt,et,id,ob))(u:lS P kt=some ks)(hV:ob.fe=false)(W:ob.z=0)(hw:lB ks k k=some true)
  (hs:l8 ks k x ob.rows=some rows'):∃w',(Instr.mapUpdate T v kx vx).run P w=.ok () w'∧cf nu o w nu (o.set id (some {ob with rows:=rows'})) w'∧RO D nu (o.set id (some {ob with rows:=rows'})) w':=by
 obtain⟨g,es,cl,hu,ho,rfl,q⟩:=rq h hm ha hV W
 have A:es.toList.length=ob.rows.length:=by simpa using q.sz
 refine pP h hx O hu ho q hV W (HY u O hw _) ?_
 rcases ru u O ob.rows es.toList 0 rows' A (λj row c e q1 q2 q3=>q.key j row c e q1 q2 (by grind)) hs with⟨h1,Y⟩|⟨j,e0,h1,Y,V,U,H⟩
 ·grind[cv]
 ·exact .inr ⟨j,e0,h1,by rw[cv u,Y,Nat.zero_add],V,U,H⟩
def vK(P:Program)(T:TypeId):Option AV:=match P.info? T with
 |some i=>match i.zero with
  |some (.agg xs)=>if xs.toList.all (·.oneCell')then some (.agg (xs.toList.map AV.v))else none
  |some zv=>some (.v zv)
  |none=>none
 |none=>none
theorem nA{T:TypeId}{c:AV}(h:vK P T=some c):∃zv,(zeroValue T).run P w=.ok zv w∧RA D nu o w c zv:=by
 unfold vK at h
 split at h
 ·rename_i i hi
  split at h
  ·rename_i xs hz
   split at h
   ·rename_i hall;cases h
    refine⟨.agg xs,by simp[zeroValue,typeInfo,hi,hz],.agg _ _ zk (λi c x u H=>?_) (λi x q=>?_)⟩
    ·rw[List.getElem?_map]at u
     have:xs.toList[i]?=some x:=by grind
     rw[this]at u;cases u;exact .v _
    grind
   ·cases h
  ·rename_i zv A hz;cases h;exact⟨zv,by simp[zeroValue,typeInfo,hi,hz],.v _⟩
  ·cases h
 ·cases h
def Cb(P:Program)(T:TypeId)(o:AC)(m k:AV)(ok:Bool):Option (Prop×AV):=match Lf P T o m,k with
 |some (d,et,_,ob),.v kv=>if dH d kv then match o5 d kv ob.rows with
  |some (some c)=>some (ob.fe=false∧ob.z=0,if ok then .ck [c,.v (.bool true)]else c)
  |some none=>match vK P et with
   |some z=>some (ob.fe=false∧ob.z=0,if ok then .ck [z,.v (.bool false)]else z)
   |none=>none
  |none=>none
  else none
 |_,_=>none
theorem RA.pair{c:AV}{x:Value}{b:Bool}(h:RA D nu o w c x):RA D nu o w (.ck [c,.v (.bool b)]) (.tuple #[x,.bool b]):=by
 refine .ck _ _ rfl (λi a y q u=>?_)
 match i,q,u with
 |0,q,u=>grind
 |1,q,u=>cases q;cases u;exact .v _
 |i+2,q,u=>simp at q
theorem Ek{T:TypeId}{m k:AV}{vm vk:Value}{ok:Bool}{p:Prop}{r:AV}(h:RO D nu o w)(hm:RA D nu o w m vm)(hk:RA D nu o w k vk)(H:Cb P T o m k ok=some (p,r))(hp:p):∃v,(Instr.lookup T vm vk ok).run P w=.ok v w∧RA D nu o w r v:=by
 unfold Cb at H
 split at H
 ·rename_i d et id ob kv e1;obtain rfl:=hk.plain
  split at H
  ·rename_i O
   have fin:ob.fe=false∧ob.z=0->∀q,o5 d vk ob.rows=some q->∃kt g es cl,P.underlying T=some (.map kt et)∧P.underlying kt=some d∧vm=.map (some g)∧w.heap[g]?=some (.map es cl)∧B2 D nu o w id ob g es cl ∧
     ((q=none∧Instr.findNow d vk es.toList 0=some none)∨∃j c e row,q=some c∧Instr.findNow d vk es.toList 0=some (some (0+j,e.val))∧ob.rows[j]?=some row∧row[1]?=some c∧es.toList[j]?=some e):=λhh q hq=>by
    obtain⟨kt,g,es,cl,W,u,ho,rfl,A⟩:=Ak h hm e1 hh.1 hh.2;exact⟨kt,g,es,cl,W,u,rfl,A.e9,A,uv O ob.rows es.toList 0 q (by simpa using A.sz) (λj row c e V U q3=>A.key j row c e V U (by grind)) hq⟩
   split at H
   ·rename_i c hq;simp only[aez,aeA]at H;obtain⟨rfl,rfl⟩:=H;obtain⟨kt,g,es,cl,W,u,rfl,hb,A,hf⟩:=fin hp _ hq
    rcases hf with⟨V,_⟩|⟨j,c',e,row,V,U,q3,q4,q5⟩
    ·cases V
    ·cases V;have Y:RA D nu o w c e.val:=A.val j row c e q3 q4 (by grind)
     cases ok
     ·exact⟨e.val,by simp[Instr.lookup,run_underlying W,MapKept.run_getObj_map hb,run_checkKey u (gv O),run_findKey u U,Result.andThen],Y⟩
     ·exact⟨.tuple #[e.val,.bool true],by simp[Instr.lookup,run_underlying W,MapKept.run_getObj_map hb,run_checkKey u (gv O),run_findKey u U,Result.andThen],Y.pair⟩
   ·rename_i hq
    split at H
    ·rename_i z hz;simp only[aez,aeA]at H;obtain⟨rfl,rfl⟩:=H;obtain⟨kt,g,es,cl,W,u,rfl,hb,A,hf⟩:=fin hp _ hq
     rcases hf with⟨_,U⟩|⟨j,c',e,row,V,_⟩
     ·obtain⟨zv,z1,z2⟩:=nA (D:=D) (nu:=nu) (o:=o) (w:=w) hz
      cases ok
      ·exact⟨zv,by simp[Instr.lookup,run_underlying W,MapKept.run_getObj_map hb,run_checkKey u (gv O),run_findKey u U,z1,Result.andThen],z2⟩
      ·exact⟨.tuple #[zv,.bool false],by simp[Instr.lookup,run_underlying W,MapKept.run_getObj_map hb,run_checkKey u (gv O),run_findKey u U,z1,Result.andThen],z2.pair⟩
     ·cases V
    ·cases H
   ·cases H
  ·cases H
 ·cases H
def Ca(P:Program)(T:TypeId)(rows:List C5)(k:AV)(ok:Bool):Option (Prop×AV):=match P.underlying T,k with
 |some (.map kt et),.v kv=>match P.underlying kt with
  |some d=>if dH d kv then match o5 d kv rows with
   |some (some c)=>some (True,if ok then .ck [c,.v (.bool true)]else c)
   |some none=>match vK P et with
    |some z=>some (True,if ok then .ck [z,.v (.bool false)]else z)
    |none=>none
   |none=>none
   else none
  |none=>none
 |_,_=>none
theorem Ej{T:TypeId}{rows:List C5}{k:AV}{vm vk:Value}{ok:Bool}{p:Prop}{r:AV}(hm:RA D nu o w (.mp rows) vm)(hk:RA D nu o w k vk)(A:Ca P T rows k ok=some (p,r)):∃v,(Instr.lookup T vm vk ok).run P w=.ok v w∧RA D nu o w r v:=by
 unfold Ca at A
 split at A
 ·rename_i kt et kv Y;obtain rfl:=hk.plain
  split at A
  ·rename_i d u
   split at A
   ·rename_i H
    cases hm with
    |mp _ b es cl h1 hb h3 h4 h5 h6 h7=>
    have fin:=λq W=>uv (D:=D) (nu:=nu) (o:=o) (w:=w) H rows es.toList 0 q zd (λj row c e U O q3=>h7 j 0 row c e U O (by grind)) W
    split at A
    ·rename_i c W;simp only[aez,aeA]at A;obtain⟨rfl,rfl⟩:=A
     rcases fin _ W with⟨U,_⟩|⟨j,c',e,row,U,O,q3,q4,q5⟩
     ·cases U
     ·cases U;have V:RA D nu o w c e.val:=h7 j 1 row c e q3 q4 (by grind)
      cases ok
      ·exact⟨e.val,by simp[Instr.lookup,run_underlying Y,MapKept.run_getObj_map hb,run_checkKey u (gv H),run_findKey u O,Result.andThen],V⟩
      ·exact⟨.tuple #[e.val,.bool true],by simp[Instr.lookup,run_underlying Y,MapKept.run_getObj_map hb,run_checkKey u (gv H),run_findKey u O,Result.andThen],V.pair⟩
    ·rename_i W
     split at A
     ·rename_i z hz;simp only[aez,aeA]at A;obtain⟨rfl,rfl⟩:=A
      rcases fin _ W with⟨_,O⟩|⟨j,c',e,row,U,_⟩
      ·obtain⟨zv,z1,z2⟩:=nA (D:=D) (nu:=nu) (o:=o) (w:=w) hz
       cases ok
       ·exact⟨zv,by simp[Instr.lookup,run_underlying Y,MapKept.run_getObj_map hb,run_checkKey u (gv H),run_findKey u O,z1,Result.andThen],z2⟩
       ·exact⟨.tuple #[zv,.bool false],by simp[Instr.lookup,run_underlying Y,MapKept.run_getObj_map hb,run_checkKey u (gv H),run_findKey u O,z1,Result.andThen],z2.pair⟩
      ·cases U
     ·cases A
    ·cases A
   ·cases A
  ·cases A
 ·cases A
def mr(P:Program)(et:TypeId)(ks:Nm)(rows:List C5)(k:C5)(ok:Bool):Option AV:=if lB ks k k=some true then match kK ks k rows with
 |some (some c)=>some (if ok then .ck [c,.v (.bool true)]else c)
 |some none=>match vK P et with
  |some z=>some (if ok then .ck [z,.v (.bool false)]else z)
  |none=>none
 |none=>none
 else none
theorem rp{T kt et:TypeId}{ks:Nm}{rows:List C5}{k:C5}{kx:Value}{ok:Bool}{r:AV}{g cl:Nat}{es:Array MapEntry}(hu:P.underlying T=some (.map kt et))(U:lS P kt=some ks)(hk:RA D nu o w (.agg k) kx)(hb:w.heap[g]?=some (.map es cl))(hsz:es.size=rows.length)
  (hkey:∀(i:Nat)row c e,rows[i]?=some row->row[0]?=some c->es[i]?=some e->RA D nu o w c e.key)(V:∀(i:Nat)row c e,rows[i]?=some row->row[1]?=some c->es[i]?=some e->RA D nu o w c e.val)(A:mr P et ks rows k ok=some r):∃v,(Instr.lookup T (.map (some g)) kx ok).run P w=.ok v w∧RA D nu o w r v:=by
 unfold mr at A
 split at A
 ·rename_i hw;have u:=λem=>HY (P:=P) U hk hw em;have fin:=λq Y=>rn U hk rows es.toList 0 q zd (λj row c e O H q3=>hkey j row c e O H (by grind)) Y
  split at A
  ·rename_i c Y;cases A
   rcases fin _ Y with⟨O,_⟩|⟨j,c',e,row,O,H,q3,q4,q5⟩
   ·cases O
   ·cases O;have W:RA D nu o w c e.val:=V j row c e q3 q4 (by grind)
    cases ok
    ·exact⟨e.val,by simp[Instr.lookup,run_underlying hu,MapKept.run_getObj_map hb,u,cv U,H,Result.andThen],W⟩
    ·exact⟨.tuple #[e.val,.bool true],by simp[Instr.lookup,run_underlying hu,MapKept.run_getObj_map hb,u,cv U,H,Result.andThen],W.pair⟩
  ·rename_i Y
   split at A
   ·rename_i z hz;cases A
    rcases fin _ Y with⟨_,H⟩|⟨j,c',e,row,O,_⟩
    ·obtain⟨zv,z1,z2⟩:=nA (D:=D) (nu:=nu) (o:=o) (w:=w) hz
     cases ok
     ·exact⟨zv,by simp[Instr.lookup,run_underlying hu,MapKept.run_getObj_map hb,u,cv U,H,z1,Result.andThen],z2⟩
     ·exact⟨.tuple #[zv,.bool false],by simp[Instr.lookup,run_underlying hu,MapKept.run_getObj_map hb,u,cv U,H,z1,Result.andThen],z2.pair⟩
    ·cases O
   ·cases A
  ·cases A
 ·cases A
def uw(P:Program)(T:TypeId)(o:AC)(m:AV)(k:C5)(ok:Bool):Option (Prop×AV):=match m,P.underlying T with
 | .mp rows,some (.map kt et)=>match lS P kt with
  |some ks=>(mr P et ks rows k ok).map (True, ·)
  |none=>none
 | .vec id 0,some (.map kt et)=>match lS P kt,o[id]? with
  |some ks,some (some ob)=>(mr P et ks ob.rows k ok).map (ob.fe=false∧ob.z=0, ·)
  |_,_=>none
 |_,_=>none
theorem vI{T:TypeId}{m:AV}{k:C5}{vm vk:Value}{ok:Bool}{p:Prop}{r:AV}(h:RO D nu o w)(hm:RA D nu o w m vm)(hk:RA D nu o w (.agg k) vk)(u:uw P T o m k ok=some (p,r))(Y:p):∃v,(Instr.lookup T vm vk ok).run P w=.ok v w∧RA D nu o w r v:=by
 unfold uw at u
 split at u
 ·rename_i rows kt et U
  split at u
  ·rename_i ks V;obtain⟨r',W,e⟩:=aeX.1 u;cases e
   cases hm with
   |mp _ b es cl h1 hb h3 h4 h5 h6 h7=>exact rp U V hk hb h3 (λi row c e O H A=>h7 i 0 row c e O H A) (λi row c e O H A=>h7 i 1 row c e O H A) W
  ·cases u
 ·rename_i id kt et U
  split at u
  ·rename_i ks ob V ho;obtain⟨r',W,e⟩:=aeX.1 u;cases e
   have e0:sx P T o (.vec id 0)=some (kt,et,id,ob):=by grind[sx]
   obtain⟨g,es,cl,hu',ho',rfl,q⟩:=rq h hm e0 Y.1 Y.2;exact rp U V hk q.e9 q.sz q.key q.val W
  ·cases u
 ·cases u
def Ei(P:Program)(T:TypeId)(o:AC)(m k:AV)(ok:Bool):Option (Prop×AV):=match k with
 | .agg ks=>uw P T o m ks ok
 | .v kv=>match m with
  | .mp rows=>Ca P T rows (.v kv) ok
  | .vec id len=>Cb P T o (.vec id len) (.v kv) ok
  |_=>none
 |_=>none
theorem xC{T:TypeId}{m k:AV}{vm vk:Value}{ok:Bool}{p:Prop}{r:AV}(h:RO D nu o w)(A:RA D nu o w m vm)(H:RA D nu o w k vk)(q:Ei P T o m k ok=some (p,r))(u:p):∃v,(Instr.lookup T vm vk ok).run P w=.ok v w∧RA D nu o w r v:=by
 unfold Ei at q
 grind[vI,Ej,Ek]
def xD(P:Program)(T:TypeId)(o:AC)(m k x:AV):Option (Prop×AC):=match k with
 | .agg kc=>match sx P T o m with
  |some (kt,_,id,ob)=>match lS P kt with
   |some ks=>if lB ks kc kc=some true then match l8 ks kc x ob.rows with
    |some rows=>some (ob.fe=false∧ob.z=0,o.set id (some ⟨ob.T,ob.z,ob.fe,rows⟩))
    |none=>none
    else none
   |none=>none
  |none=>none
 | .v kv=>match Lf P T o m with
  |some (d,_,id,ob)=>if dH d kv then match nz d kv x ob.rows with
   |some rows=>some (ob.fe=false∧ob.z=0,o.set id (some ⟨ob.T,ob.z,ob.fe,rows⟩))
   |none=>none
   else none
  |none=>none
 |_=>none
theorem vJ{T:TypeId}{m k x:AV}{vm vk vx:Value}{p:Prop}{o':AC}(h:RO D nu o w)(O:RA D nu o w m vm)(u:RA D nu o w k vk)(A:RA D nu o w x vx)(q:xD P T o m k x=some (p,o'))(H:p) :
  ∃w',(Instr.mapUpdate T vm vk vx).run P w=.ok () w'∧cf nu o w nu o' w'∧RO D nu o' w':=by
 unfold xD at q
 split at q
 ·grind[aez,aeA,kE]
 ·split at q
  ·rename_i kv d et id ob e1;obtain rfl:=u.plain
   grind[aez,aeA,yJ]
  ·cases q
 ·cases q
end
end
section
attribute [go_sem_proc] Nat.reduceAdd Nat.reduceSub Nat.reduceMul Nat.reduceLeDiff Nat.reduceEqDiff Nat.reduceLT Int.reduceToNat reduceCtorEq Int.reduceLE Int.reduceLT Int.reduceNeg Int.reduceEq Int.reduceBEq Int.reduceBNe
attribute [go_sem_proc ↓] reduceIte
open Go.RowKit
inductive Ex where
 |mk (kind:Int) (label:ByteArray) (kids:List Ex)
abbrev IO:=List Ex
def Ex.kind:Ex->Int| .mk k _ _=>k
def Ex.label:Ex->ByteArray| .mk _ s _=>s
def Ex.kids:Ex->IO| .mk _ _ l=>l
theorem Ex.ind{P:Ex->Prop}(h:∀k s kids,(∀x,x∈kids->P x)->P (.mk k s kids)):∀x,P x:=
 @Ex.rec P (λl=>∀x,x∈l->P x) (λk s kids ih=>h k s kids ih) (λx q=>by cases q) (λO tl H A x q=>by
  cases q with
  |head=>exact H
  |tail _ u=>exact A x u)
def Ha(w:World)(v:Value)(e:Ending)(w':World):Prop:=e=.returned v∧Below w.heap.size w w'
theorem nW{w:World}{b o:Nat}{v:Value}(h:w.cell? ⟨b,o,none⟩=some v):b<w.heap.size:=by
 rcases Nat.lt_or_ge b w.heap.size with q|q
 ·exact q
 ·simp[World.cell?,Array.getElem?_eq_none q]at h
theorem HM{w w':World}(q:Below w.heap.size w w'){b o:Nat}{v:Value}(h:w.cell? ⟨b,o,none⟩=some v):w'.cell? ⟨b,o,none⟩=some v:=
 (q.cell (p:=⟨b,o,none⟩) (nW h)).trans h
theorem cV{w q u:World}(h:Below w.heap.size w q)(k:Below q.heap.size q u):Below w.heap.size w u:=h.trans (k.mono h.size)
theorem Below.RD{w w':World}(h:Below w.drew.heap.size w.drew w'):Below w.heap.size w w':=⟨h.os,h.tape,h.output,h.size,h.block⟩
theorem dE(w:World):Below w.heap.size w w.drew:=(Below.refl _ _).drew
theorem cK{w w':World}{v:Value}{b q:Bool}(u:v=.bool b)(h:b=q)(A:Below w.heap.size w w'):Ha w (.bool q) (.returned v) w':=⟨by rw[u,h],A⟩
def Lc(w:World)(v:Value)(e:Ending)(w':World):Prop:=e=.returned v∧w=w'
theorem zi{w:World}{v:Value}{b q:Bool}(u:v=.bool b)(h:b=q):Lc w (.bool q) (.returned v) w:=⟨by rw[u,h],rfl⟩
theorem QP{w:World}{v:Value}{b q:Int}(u:v=.int .i64 b)(h:b=q):Lc w (.int .i64 q) (.returned v) w:=⟨by rw[u,h],rfl⟩
def dL(w:World)(b o:Nat):IR->Prop
 | []=>True
 |v::vs=>w.cell? ⟨b,o,none⟩=some v∧dL w b (o+1) vs
def Cells(w w':World):Prop:=∀b o v,w.cell? ⟨b,o,none⟩=some v->w'.cell? ⟨b,o,none⟩=some v
theorem Cells.of{w w':World}(q:Below w.heap.size w w'):Cells w w':=λ_ _ _ h=>HM q h
theorem Cells.trans{a b c:World}(h:Cells a b)(k:Cells b c):Cells a c:=λx o v q=>k x o v (h x o v q)
theorem dL.cells{w w':World}(q:Cells w w'):∀{vs:IR}{b o:Nat},dL w b o vs->dL w' b o vs
 | [],_,_,_=>trivial
 |_::_,_,_,h=>⟨q _ _ _ h.1,h.2.cells q⟩
theorem dL.below{w w':World}(q:Below w.heap.size w w'){vs:IR}{b o:Nat}(h:dL w b o vs):dL w' b o vs:=h.cells (.of q)
def gJ{α:Type}(w:World)(sz:Nat)(rd:α->IR->Prop)(xs:List α)(v:Value):Prop:=
 ((v=.slice none 0 0∨∃a:Addr,v=.slice (some a) 0 0)∧xs=[])∨∃b o cap,v=.slice (some ⟨b,o,none⟩) xs.length cap∧xs.length<=cap∧cap<=maxLen ∧
  ∀i x,xs[i]?=some x->∃cs,rd x cs∧dL w b (o+i*sz) cs
theorem gJ.ab7{α:Type}{w w':World}{sz:Nat}{rd q:α->IR->Prop}{xs:List α}{v:Value}(h:gJ w sz rd xs v)
  (V:Cells w w')(u:∀x cs,x∈xs->rd x cs->q x cs):gJ w' sz q xs v:=by
 rcases h with h|⟨b,o,cap,O,h1,Y,W⟩
 ·exact .inl h
 ·refine .inr ⟨b,o,cap,O,h1,Y,λi x A=>?_⟩;obtain⟨cs,U,H⟩:=W i x A;exact⟨cs,u x cs (aeQ A) U,H.cells V⟩
theorem gJ.imp{α:Type}{w w':World}{sz:Nat}{rd q:α->IR->Prop}{xs:List α}{v:Value}(h:gJ w sz rd xs v)
  (V:Below w.heap.size w w')(u:∀x cs,x∈xs->rd x cs->q x cs):gJ w' sz q xs v:=by
 rcases h with h|⟨b,o,cap,O,h1,Y,W⟩
 ·exact .inl h
 ·refine .inr ⟨b,o,cap,O,h1,Y,λi x A=>?_⟩;obtain⟨cs,U,H⟩:=W i x A;exact⟨cs,u x cs (aeQ A) U,H.below V⟩
theorem gJ.below{α:Type}{w w':World}{sz:Nat}{rd:α->IR->Prop}{xs:List α}{v:Value}(h:gJ w sz rd xs v)
  (q:Below w.heap.size w w'):gJ w' sz rd xs v:=h.imp q (λ_ _ _ h=>h)
theorem gJ.shape{α:Type}{w:World}{sz:Nat}{rd:α->IR->Prop}{xs:List α}{v:Value}(h:gJ w sz rd xs v) :
  ∃p cap,v=.slice p xs.length cap∧xs.length<=cap∧cap<=maxLen:=by
 rcases h with⟨rfl|⟨a,rfl⟩,rfl⟩|⟨b,o,cap,q,A,u,H⟩
 ·exact⟨none,0,rfl,aen _,by unfold maxLen;omega⟩
 ·exact⟨some a,0,rfl,aen _,by unfold maxLen;omega⟩
 ·exact⟨_,cap,q,A,u⟩
theorem gJ.at{α:Type}{w:World}{sz:Nat}{rd:α->IR->Prop}{xs:List α}{p:Option Addr}{n cap:Nat}(h:gJ w sz rd xs (.slice p n cap))
  {k:Nat}(q:k<xs.length):∃b o cs,p=some ⟨b,o,none⟩∧rd xs[k] cs∧dL w b (o+k*sz) cs:=by
 rcases h with⟨_,rfl⟩|⟨b,o,cap,A,V,U,O⟩
 ·simp at q
 ·obtain⟨cs,H,u⟩:=O k xs[k] (by simp[q]);cases A;exact⟨b,o,cs,rfl,H,u⟩
mutual
def fE(w:World):Ex->IR->Prop
 | .mk k s kids,cs=>∃sv,cs=[.int .i64 k,.string s,sv]∧kI w kids sv
def kI(w:World):IO->Value->Prop
 | [],v=>(v=.slice none 0 0∨∃a:Addr,v=.slice (some a) 0 0)∨∃b o cap,v=.slice (some ⟨b,o,none⟩) 0 cap∧cap<=maxLen
 |x::xs,v=>∃b o cap cs,v=.slice (some ⟨b,o,none⟩) (xs.length+1) cap∧xs.length+1<=cap∧cap<=maxLen∧fE w x cs∧dL w b o cs∧xw w b (o+3) xs
def xw(w:World)(b:Nat):Nat->IO->Prop
 |_,[]=>True
 |o,x::xs=>∃cs,fE w x cs∧dL w b o cs∧xw w b (o+3) xs
end
theorem qC{w:World}{b:Nat}:∀{xs:IO}{o:Nat},xw w b o xs ↔ ∀i x,xs[i]?=some x->∃cs,fE w x cs∧dL w b (o+i*3) cs
 | [],o=>⟨λ_ i x h=>by simp at h,λ_=>by simp[xw]⟩
 |y::ys,o=>by
  rw[xw]
  constructor
  ·rintro⟨cs,U,O,V⟩ i x u
   cases i with
   |zero=>simp at u;subst u;exact⟨cs,U,by simpa using O⟩
   |succ i=>
    obtain⟨q,H,A⟩:=qC.1 V i x (by simpa using u);exact⟨q,H,by rw[show o+(i+1)*3=o+3+i*3 by omega];exact A⟩
  ·intro h;obtain⟨cs,U,O⟩:=h 0 y zk;refine⟨cs,U,by simpa using O,qC.2 λi x u=>?_⟩;obtain⟨q,H,A⟩:=h (i+1) x (by simpa using u);exact⟨q,H,by rw[show o+3+i*3=o+(i+1)*3 by omega];exact A⟩
theorem gw{w:World}:∀{xs:IO}{v:Value},kI w xs v↔gJ w 3 (fE w) xs v
 | [],v=>by
  rw[kI]
  constructor
  ·rintro(h|⟨b,o,cap,u,q⟩)
   ·exact .inl ⟨h,rfl⟩
   ·exact .inr ⟨b,o,cap,by simpa using u,zk,q,λi x h=>by simp at h⟩
  ·rintro(h|⟨b,o,cap,u,_,q,_⟩)
   ·exact .inl h.1
   ·exact .inr ⟨b,o,cap,by simpa using u,q⟩
 |x::xs,v=>by
  rw[kI]
  constructor
  ·rintro⟨b,o,cap,cs,u,q,U,O,H,A⟩;refine .inr ⟨b,o,cap,by simpa using u,by simpa using q,U,?_⟩
   have:=(qC (xs:=x::xs) (o:=o)).1 (by rw[xw];exact⟨cs,O,H,A⟩)
   exact this
  ·rintro(⟨_,h⟩|⟨b,o,cap,u,q,U,O⟩)
   ·cases h
   ·have:=(qC (xs:=x::xs) (o:=o)).2 O
    rw[xw]at this;obtain⟨cs,H,A,V⟩:=this;exact⟨b,o,cap,cs,by simpa using u,by simpa using q,U,H,A,V⟩
theorem fE.cells{w w':World}(u:Cells w w'):∀x:Ex,∀cs,fE w x cs->fE w' x cs:=by
 intro x
 induction x using Ex.ind with
 |h k s kids ih=>
  intro cs h;rw[fE]at h⊢;obtain⟨sv,H,A⟩:=h;exact⟨sv,H,gw.2 ((gw.1 A).ab7 u (λx cs q=>ih x q cs))⟩
theorem fE.below{w w':World}(q:Below w.heap.size w w')(x:Ex)(cs:IR)(h:fE w x cs):fE w' x cs:=fE.cells (.of q) x cs h
theorem kI.below{w w':World}(q:Below w.heap.size w w'){xs:IO}{v:Value}(h:kI w xs v):kI w' xs v:=
 gw.2 ((gw.1 h).imp q (λx cs _=>fE.below q x cs))
theorem kI.shape{w:World}{xs:IO}{v:Value}(h:kI w xs v):∃p cap,v=.slice p xs.length cap∧xs.length<=cap∧cap<=maxLen:=(gw.1 h).shape
theorem kI.at{w:World}{xs:IO}{p:Option Addr}{n cap:Nat}(h:kI w xs (.slice p n cap)){k:Nat}(O:k<xs.length) :
  ∃b o kd s kids sv,p=some ⟨b,o,none⟩∧xs[k]=.mk kd s kids∧kI w kids sv ∧
   w.cell? ⟨b,o+k*3,none⟩=some (.int .i64 kd)∧w.cell? ⟨b,o+k*3+1,none⟩=some (.string s)∧w.cell? ⟨b,o+k*3+2,none⟩=some sv:=by
 obtain⟨b,o,cs,H,q,u⟩:=(gw.1 h).at O
 rcases A:xs[k]with⟨kd,s,kids⟩
 rw[A,fE]at q;obtain⟨sv,rfl,q⟩:=q;exact⟨b,o,kd,s,kids,sv,H,rfl,q,u.1,u.2.1,u.2.2.1⟩
def nB{α β:Type}(f:α->β->Bool):List α->List β->Bool
 | [],[]=>true
 |x::xs,y::ys=>f x y&&nB f xs ys
 |_,_=>false
theorem sC{α β:Type}{f:α->β->Bool}:∀{xs:List α}{ys:List β},nB f xs ys=true↔xs.length=ys.length∧∀i(h:i<xs.length)(A:i<ys.length),f xs[i] ys[i]=true
 | [],[]=>by simp[nB]
 | [],_::_=>by simp[nB]
 |_::_,[]=>by simp[nB]
 |x::xs,y::ys=>by
  simp only[nB,Bool.and_eq_true,sC,List.length_cons]
  constructor
  ·rintro⟨u,q,H⟩;refine⟨zd,λi h A=>?_⟩
   cases i with
   |zero=>exact u
   |succ i=>exact H i zd zd
  ·rintro⟨u,q⟩;exact⟨q 0 zd zd,zd,λi h A=>q (i+1) zd zd⟩
theorem Oc{α β:Type}{f:α->β->Bool}{xs:List α}{ys:List β}(h:xs.length≠ys.length):nB f xs ys=false:=by
 rw[<-ae1,sC];exactλq=>h q.1
theorem Sz{α β:Type}{f:α->β->Bool}{xs:List α}{ys:List β}{k:Nat}(h:k<xs.length)(A:k<ys.length)(q:f xs[k] ys[k]=false):nB f xs ys=false:=by
 rw[<-ae1,sC];exactλu=>by rw[u.2 k h A]at q;cases q
mutual
def jd:Ex->Ex->Bool
 | .mk k s l,.mk k' s' l'=>(k==k')&&(s.toList==s'.toList)&&mc l l'
def mc:IO->IO->Bool
 | [],[]=>true
 |x::xs,y::ys=>jd x y&&mc xs ys
 |_,_=>false
end
theorem rI:∀xs ys,mc xs ys=nB jd xs ys
 | [],[]=>by simp[mc,nB]
 | [],_::_=>by simp[mc,nB]
 |_::_,[]=>by simp[mc,nB]
 |x::xs,y::ys=>by simp[mc,nB,rI xs ys]
theorem wx(k u:Int)(s s':ByteArray)(l q:IO):jd (.mk k s l) (.mk u s' q)=((k==u)&&(s.toList==s'.toList)&&nB jd l q):=by
 rw[jd,rI]
structure Ef where
 kind:Int
 num:Int
 text:ByteArray
structure zJ where
 kind:Int
 name:ByteArray
 key:ByteArray
 val:Ef
structure Jy where
 op:Int
 left:zJ
 right:zJ
structure qS where
 bP:ByteArray
 to:ByteArray
 path:Bool
 label:ByteArray
 name:ByteArray
 expr:Ex
abbrev PP:=List qS
structure Lb where
 wH:PP
 conds:List Jy
 ret:List zJ
 range:Int
 Rb:Int
def Ef.cells(x:Ef):IR:=[.int .i64 x.kind,.int .i64 x.num,.string x.text]
def zJ.cells(x:zJ):IR:=[.int .i64 x.kind,.string x.name,.string x.key,.int .i64 x.val.kind,.int .i64 x.val.num,.string x.val.text]
def Jy.cells(x:Jy):IR:=[.int .i64 x.op,.int .i64 x.left.kind,.string x.left.name,.string x.left.key,.int .i64 x.left.val.kind,.int .i64 x.left.val.num,.string x.left.val.text,
 .int .i64 x.right.kind,.string x.right.name,.string x.right.key,.int .i64 x.right.val.kind,.int .i64 x.right.val.num,.string x.right.val.text]
def fQ(s t:ByteArray):Bool:=s.toList==t.toList
def YB(w:World)(p:qS)(cs:IR):Prop:=
 ∃k s l sv,p.expr=.mk k s l∧kI w l sv∧cs=[.string p.bP,.string p.to,.bool p.path,.string p.label,.string p.name,.int .i64 k,.string s,sv]
def YA(p:zJ)(cs:IR):Prop:=cs=p.cells
def Yx(p:Jy)(cs:IR):Prop:=cs=p.cells
def Vf(p:ByteArray)(cs:IR):Prop:=cs=[.string p]
def Yy(p:Int)(cs:IR):Prop:=cs=[.int .i64 p]
abbrev VY(w:World)(xs:PP)(v:Value):Prop:=gJ w 8 (YB w) xs v
abbrev VX(w:World)(xs:List zJ)(v:Value):Prop:=gJ w 6 YA xs v
abbrev VW(w:World)(xs:List Jy)(v:Value):Prop:=gJ w 13 Yx xs v
abbrev rk(w:World)(xs:B0)(v:Value):Prop:=gJ w 1 Vf xs v
abbrev abY(w:World)(xs:M2)(v:Value):Prop:=gJ w 1 Yy xs v
def adq(w:World)(q:Lb)(cs:IR):Prop:=
 ∃v1 v2 v3,VY w q.wH v1∧VW w q.conds v2∧VX w q.ret v3∧cs=[v1,v2,v3,.int .i64 q.range,.int .i64 q.Rb]
def o9(c:Int):Bool:=decide (97<=c)&&decide (c<=122)
def ib(c:Int):Bool:=o9 c||c==95||(decide (48<=c)&&decide (c<=57))
def fU(s:ByteArray):Bool:=s.data.toList.all (λb=>ib b.toNat)&&decide (1<=s.size)&&decide (s.size<=20)
theorem gr(f:UInt8->Bool)(s:ByteArray):s.data.toList.all f=true ↔ ∀j(h:j<s.size),f s[j]=true:=by
 rw[List.all_eq_true]
 constructor
 ·intro h j q;exact h _ (by simp[ByteArray.getElem_eq_getElem_data])
 ·intro h x hx;obtain⟨j,q,rfl⟩:=List.getElem_of_mem hx;exact h j (by simpa using q)
theorem Gy{s:ByteArray}{j:Nat}(h:j<s.size)(q:ib s[j].toNat=false):fU s=false:=by
 have:s.data.toList.all (λb=>ib b.toNat)=false:=by
  rw[<-ae1,gr];exactλu=>by rw[u j h]at q;cases q
 simp[fU,this]
theorem Ns{s:ByteArray}(h:∀j(h:j<s.size),ib s[j].toNat=true):fU s=(decide (1<=s.size)&&decide (s.size<=20)):=by
 rw[fU,(gr _ s).2 h,Bool.true_and]
theorem lU(s:ByteArray):s.toList.isEmpty=decide (s.size=0):=by
 rw[ByteArray.toList_eq];obtain⟨⟨l⟩⟩:=s;cases l<;>simp[ByteArray.size]
def words:B0:=[⟨#[97,115]⟩,⟨#[109,97,116,99,104]⟩,⟨#[119,104,101,114,101]⟩,⟨#[97,110,100]⟩,⟨#[114,101,116,117,114,110]⟩,⟨#[114,97,110,103,101]⟩,⟨#[115,108,105,100,101]⟩]
theorem I5{α:Type}{W:World}{n:Nat}{C:Array Value}{t:TypeId}{fz:Nat×Nat}(h:W.heap[n]?=some (.cells C t fz)){sz:Nat}{rd:α->IR->Prop}{xs:List α}
  (f:α->IR)(U:∀x,x∈xs->rd x (f x))(A:∀x,x∈xs->(f x).length=sz)(V:C.toList=xs.flatMap f){m cap:Nat}(Y:m=xs.length)(hc:m<=cap)(H:cap<=maxLen) :
  gJ W sz rd xs (.slice (some ⟨n,0,none⟩) m cap):=by
 subst Y;refine .inr ⟨n,0,cap,rfl,hc,H,λi x q=>⟨f x,U x (aeQ q),?_⟩⟩
 have key:∀(l:List α)(i:Nat)(x:α),(∀x,x∈l->(f x).length=sz)->l[i]?=some x->∀j v,(f x)[j]?=some v->(l.flatMap f)[i*sz+j]?=some v:=by
  intro l
  induction l with
  |nil=>intro i x _ h;simp at h
  |cons y l ih=>
   intro i x hl q j v u;rw[List.flatMap_cons]
   cases i with
   |zero=>
    simp at q;subst q;rw[List.getElem?_append_left (by rw[Nat.zero_mul,Nat.zero_add];exact(List.getElem?_eq_some_iff.1 u).1)];simpa using u
   |succ i=>
    have O:=hl y zk;rw[List.getElem?_append_right (by rw[O,Nat.succ_mul];omega),O,show(i+1)*sz+j-sz=i*sz+j by rw[Nat.succ_mul];omega];exact ih i x (λx q=>hl x (by simp[q])) (by simpa using q) j v u
 have hcell:∀j v,(f x)[j]?=some v->W.cell? ⟨n,0+i*sz+j,none⟩=some v:=by
  intro j v u
  have:=key xs i x A q j v u
  rw[<-V]at this;simp only[World.cell?,h];simpa using this
 generalize 0+i*sz=o at hcell;clear U A V key q;generalize f x=vs at hcell
 induction vs generalizing o with
 |nil=>trivial
 |cons y vs ih=>exact⟨by simpa using hcell 0 y rfl,ih (o+1) (λj v u=>by rw[show o+1+j=o+(j+1) by omega];exact hcell (j+1) v (by simpa using u))⟩
theorem gT(W:World)(o:Obj):(W.alloc o).heap[W.heap.size]?=some o:=by
 show(W.heap.push o)[W.heap.size]?=some o;simp
def rJ(s:ByteArray):Int:=if h:0<s.size then(s[0]'h).toNat else 0
def cB(s:ByteArray):Bool:=fU s&&o9 (rJ s) && !words.any (λx=>fQ s x)
theorem zD{s:ByteArray}(h:fU s=true):0<s.size∧s.size<=20:=by
 simp only[fU,Bool.and_eq_true,decide_eq_true_eq]at h;omega
def jm(n:Nat):Bool:= !(decide (n<32)||decide (126<n)||n==34||n==92)
def kG(s:ByteArray):Bool:=s.data.toList.all (λb=>jm b.toNat)
def pc(s:ByteArray):Bool:=decide (s.size=0)
def jR:Int:=1099511627776
def bo(v:Ef):Bool:=if v.kind==1 then pc v.text&&decide (-jR<=v.num)&&decide (v.num<=jR)else
 if v.kind==2 then v.num==0&&decide (v.text.size<=40)&&kG v.text else false
def bO(k:Int)(s:ByteArray)(n:Nat):Bool:=if k==1 then decide (n=0)&&cB s else
 if k==2||k==3 then decide (1<n)&&pc s else
 if k==4||k==5||k==6 then decide (n=1)&&pc s else false
theorem mR{s:ByteArray}{j:Nat}(h:j<s.size)(q:jm s[j].toNat=false):kG s=false:=by
 rw[kG, <- ae1,gr];exactλu=>by rw[u j h]at q;cases q
theorem y5{s:ByteArray}(h:∀j(h:j<s.size),jm s[j].toNat=true):kG s=true:=by
 rw[kG,gr (λb=>jm b.toNat)];exact h
theorem tB(n:Nat):(n<32∧jm n=false)∨(32<=n∧126<n∧jm n=false)∨(32<=n∧n<=126∧((n:Int)==34)=true∧jm n=false) ∨
  (32<=n∧n<=126∧((n:Int)==34)=false∧((n:Int)==92)=true∧jm n=false)∨(32<=n∧n<=126∧((n:Int)==34)=false∧((n:Int)==92)=false∧jm n=true):=by
 unfold jm
 by_cases u:n<32
 ·exact .inl ⟨u,by simp[u]⟩
 ·by_cases q:126<n
  ·exact .inr (.inl ⟨zd,q,by simp[q]⟩)
  ·by_cases H:n=34
   ·subst H;exact .inr (.inr (.inl ⟨zd,zd,rfl,rfl⟩))
   ·by_cases A:n=92
    ·subst A;exact .inr (.inr (.inr (.inl ⟨zd,zd,rfl,rfl,rfl⟩)))
    ·exact .inr (.inr (.inr (.inr ⟨zd,zd,ahy,ahy,by simp[u,q,H,A]⟩)))
def wG(s:ByteArray):Prop:=s.size<=140737488355328
theorem wG.len{s:ByteArray}(h:wG s):s.size<=maxLen:=by unfold wG at h;unfold maxLen;omega
mutual
def Ex.ok:Ex->Prop
 | .mk _ s l=>wG s∧vQ l
def vQ:IO->Prop
 | []=>True
 |x::xs=>x.ok∧vQ xs
end
theorem qn:∀{l:IO},vQ l ↔ ∀x,x∈l->x.ok
 | []=>by simp[vQ]
 |x::xs=>by simp[vQ,qn (l:=xs)]
def Ef.ok(v:Ef):Prop:=wG v.text
def zJ.ok(o:zJ):Prop:=wG o.name∧wG o.key∧o.val.ok
def Jy.ok(c:Jy):Prop:=c.left.ok∧c.right.ok
def qS.ok(p:qS):Prop:=wG p.bP∧wG p.to∧wG p.label∧wG p.name∧p.expr.ok
def Lb.ok(q:Lb):Prop:=(∀p,p∈q.wH->p.ok)∧(∀c,c∈q.conds->c.ok)∧(∀o,o∈q.ret->o.ok)
def Lb.small(q:Lb):Prop:=q.wH.length<=140737488355328∧q.conds.length<=140737488355328∧q.ret.length<=140737488355328
mutual
def aq:Ex->IO
 | .mk k s l=> .mk k s l::bZ l
def bZ:IO->IO
 | []=>[]
 |x::xs=>aq x++bZ xs
end
theorem bN:∀l:IO,bZ l=l.flatMap aq
 | []=>rfl
 |x::xs=>by rw[bZ,bN xs,List.flatMap_cons]
theorem kB(a b:IO):bZ (a++b)=bZ a++bZ b:=by simp[bN]
theorem uH(l:IO)(k:Nat):(bZ (l.take k)).length<=(bZ l).length:=by
 have:=congrArg List.length (kB (l.take k) (l.drop k))
 rw[List.take_append_drop,List.length_append]at this;omega
theorem rH{l:IO}{k:Nat}(h:k<l.length):bZ (l.take (k+1))=bZ (l.take k)++aq l[k]:=by
 rw[List.take_succ_eq_append_getElem h,kB];simp[bZ]
def Ex.part:Ex->Bool| .mk k s l=>bO k s l.length
def aD(x:Ex):Bool:=decide ((aq x).length<=24)&&(aq x).all Ex.part
def Ex.sig:Ex->Int×ByteArray×Nat
 | .mk k s l=>(k,s,l.length)
def v7(s:Int×ByteArray×Nat):Bool:=bO s.1 s.2.1 s.2.2
theorem Qp(x:Ex):x.part=v7 x.sig:=by obtain⟨k,s,l⟩:=x;rfl
theorem vO(x:Ex):aD x=(decide (((aq x).map Ex.sig).length<=24)&&((aq x).map Ex.sig).all v7):=by
 rw[aD,List.length_map,List.all_map]
 congr 2
 funext y
 exact Qp y
structure XC where
 kind:Int
 label:ByteArray
 ptr:Option Addr
 len:Nat
 cap:Nat
 hl:label.size<=maxLen
 hn:len<=maxLen
abbrev Pi:=List XC
def XC.val(x:XC):Value:= .agg #[.int .i64 x.kind,.string x.label,.slice x.ptr x.len x.cap]
def XC.sig(x:XC):Int×ByteArray×Nat:=(x.kind,x.label,x.len)
def Ef.none(v:Ef):Bool:=v.kind==0&&v.num==0&&pc v.text
def yT(o:zJ):Bool:=if o.kind==1 then cB o.name&&pc o.key&&o.val.none else
 if o.kind==2 then cB o.name&&cB o.key&&o.val.none else
 if o.kind==3 then bo o.val&&pc o.name&&pc o.key else false
def Qq(p:qS):Bool:=cB p.bP&&cB p.to&&if p.path then pc p.label&&pc p.name&&aD p.expr else
 cB p.label&&(pc p.name||cB p.name)&&jd p.expr (.mk 0 ⟨#[]⟩ [])
def Ot(n a b:Int):Bool:=decide (a<=n)&&decide (n<=b)
def OG(c:Jy):Bool:=Ot c.op 1 6&&yT c.left&&yT c.right
def Rx(o:zJ):Bool:=o.kind !=3&&yT o
def QG(q:Lb):Bool:=Ot q.wH.length 1 4&&decide (q.conds.length<=6)&&Ot q.ret.length 1 4&&Ot q.range 1 1048576&&Ot q.Rb 1 1048576 &&
 q.wH.all Qq&&q.conds.all OG&&q.ret.all Rx
mutual
def szE:Ex->Nat->Nat
 | .mk _ _ l,deep=>if 60<deep then 401 else szL l (deep+1) 1
def szL:IO->Nat->Nat->Nat
 | [],_,n=>n
 |x::xs,deep,n=>if n<=400 then szL xs deep (n+szE x deep)else n
end
theorem ma{w:World}{b:Nat}:∀{vs:IR}{o:Nat},dL w b o vs->∀j v,vs[j]?=some v->w.cell? ⟨b,o+j,none⟩=some v
 | [],_,_,j,v,h=>by simp at h
 |x::vs,o,q,j,v,h=>by
  cases j with
  |zero=>simp at h;subst h;simpa using q.1
  |succ j=>
   have:=ma q.2 j v (by simpa using h)
   rw[show o+(j+1)=o+1+j by omega];exact this
theorem xS{w:World}{k:Nat}{C:Array Value}{T:TypeId}{fz:Nat×Nat}(h:w.heap[k]?=some (.cells C T fz))(o:Nat):w.cell? ⟨k,o,none⟩=C[o]? :=by simp[World.cell?,h]
theorem MZ{w:World}{xs:B0}{p:Option Addr}{n cap:Nat}(h:rk w xs (.slice p n cap)){k:Nat}(H:k<xs.length) :
  ∃b o,p=some ⟨b,o,none⟩∧w.cell? ⟨b,o+k,none⟩=some (.string xs[k]):=by
 obtain⟨b,o,cs,A,u,q⟩:=gJ.at h H;subst u;rw[Nat.mul_one]at q;replace q:=ma q;exact⟨b,o,A,by simpa using q 0 _ rfl⟩
structure Spec where
 p:Value->World->Prop
 st:∀v w w',Below w.heap.size w w'->p v w->p v w'
abbrev WP:=List Spec
def Spec.any:Spec:=⟨λ_ _=>True,λ_ _ _ _ _=>trivial⟩
def at'(L:WP)(i:Nat):Spec:=L.getD i Spec.any
section
variable {P:Program} {ops:Array Oper}
def fm(s:Nat->Bool)(i:Nat):Nat->Bool:=λj=>if j=i then true else s j
def oJ(x:Nat->Value)(i:Nat)(v:Value):Nat->Value:=λj=>if j=i then v else x j
def il(s:Nat->Bool)(x:Nat->Value):GE->Nat->Act->Act
 | [],_,a=>a
 |o::l,k,a=>il s x l (k+1) (if s k then a.put o.dst (x k)else a)
theorem dp{s s':Nat->Bool}{x x':Nat->Value}:∀(l:GE)(k:Nat)(a:Act),(∀i,k<=i->i<k+l.length->s i=s' i∧(s i=true->x i=x' i))->il s x l k a=il s' x' l k a
 | [],_,_,_=>rfl
 |o::l,k,a,h=>by
  have q:=h k (aen _) zk
  have e:(if s k then a.put o.dst (x k)else a)=(if s' k then a.put o.dst (x' k)else a):=by
   rw[<-q.1]
   cases u:s k
   ·rfl
   ·simp[q.2 u]
  rw[il,il,e];exact dp l (k+1) _ (λi H A=>h i zd (by simp only[List.length_cons];omega))
theorem KL{s:Nat->Bool}{x:Nat->Value}{d:Option Tmp}{v:Value}:∀(l:GE)(k:Nat)(a:Act),(∀o∈l,∀e,d=some e->o.dst≠some e)->il s x l k (a.put d v)=(il s x l k a).put d v
 | [],_,_,_=>rfl
 |o::l,k,a,h=>by
  have e:(if s k then(a.put d v).put o.dst (x k)else a.put d v)=(if s k then a.put o.dst (x k)else a).put d v:=by
   split
   ·exact Act.put_comm a v (x k) (h o zk)
   ·rfl
  rw[il,il,e];exact KL l (k+1) _ (λo' q=>h o' (by simp[q]))
def uk(l:GE):Prop:=∀(i j:Nat)(oi oj:Oper),l[i]?=some oi->l[j]?=some oj->i≠j->∀e,oi.dst=some e->oj.dst≠some e
theorem qG{s:Nat->Bool}{x:Nat->Value}{v:Value}{o:Oper}:∀(l:GE)(k m:Nat)(a:Act),uk l->l[m]?=some o->s (k+m)=false->il (fm s (k+m)) (oJ x (k+m) v) l k a=(il s x l k a).put o.dst v
 | [],_,_,_,_,h,_=>by simp at h
 |o'::l,k,0,a,A,h,q=>by
  obtain rfl:o'=o:=by simpa using h
  rw[il,il];simp only[Nat.add_zero]at q⊢
  have e:(if fm s k k then a.put o'.dst (oJ x k v k)else a)=a.put o'.dst v:=by simp[fm,oJ]
  have Y:(if s k then a.put o'.dst (x k)else a)=a:=by simp[q]
  rw[e,Y,dp (s:=fm s k) (x:=oJ x k v) (s':=s) (x':=x) l (k+1) _ (λi W _=>by
   have:i≠k:=zd
   simp[fm,oJ,this])]
  refine KL l (k+1) a (λo'' H e V=>?_);obtain⟨j,u⟩:=List.getElem?_of_mem H;exact A 0 (j+1) o' o'' zk (by simpa using u) zd e V
 |o'::l,k,m+1,a,A,h,q=>by
  have W:k≠k+(m+1):=zd
  rw[il,il]
  have e:(if fm s (k+(m+1)) k then a.put o'.dst (oJ x (k+(m+1)) v k)else a)=(if s k then a.put o'.dst (x k)else a):=by simp[fm,oJ]
  rw[e]
  have O:k+(m+1)=k+1+m:=zd
  rw[O]at q⊢;exact qG l (k+1) m _ (λi j oi oj hi u U=>A (i+1) (j+1) oi oj (by simpa using hi) (by simpa using u) zd) (by simpa using h) q
theorem Bv{s keep:Nat->Bool}{x:Nat->Value}{l:GE}{a:Act}{oj:Oper}(V:uk l)(u:∀cs b,oj.op ≠ .select cs b)
  (h:∀i oi,l[i]?=some oi->s i=true->keep i=false->∀d,oi.dst=some d->d∉oj.looksAt ops) :
  execOp (il s x l 0 a).eval oj=execOp (il (λi=>s i&&keep i) x l 0 a).eval oj ∧
  Region.wanted oj (yielded ops (il s x l 0 a).tmps)=Region.wanted oj (yielded ops (il (λi=>s i&&keep i) x l 0 a).tmps):=by
 have key:∀t,t<=l.length->execOp (il s x l 0 a).eval oj=execOp (il (λi=>s i&&(keep i||decide (t<=i))) x l 0 a).eval oj ∧
   Region.wanted oj (yielded ops (il s x l 0 a).tmps)=Region.wanted oj (yielded ops (il (λi=>s i&&(keep i||decide (t<=i))) x l 0 a).tmps):=by
  intro t
  induction t with
  |zero=>
   intro _;rw[dp (s:=λi=>s i&&(keep i||decide (0<=i))) (s':=s) (x':=x) l 0 a (λi _ _=>zk)];exact⟨rfl,rfl⟩
  |succ t ih=>
   intro ht;obtain⟨e1,e2⟩:=ih zd;rw[e1,e2];have H:l[t]?=some l[t]:=List.getElem?_eq_getElem zd
   by_cases A:s t=true∧keep t=false
   ·have O:=h t _ H A.1 A.2;have hi:=qG (s:=λi=>s i&&(keep i||decide (t+1<=i))) (x:=x) (v:=x t) l 0 t a V H (by simp[A.2]);rw[Nat.zero_add]at hi
    have U:il (fm (λi=>s i&&(keep i||decide (t+1<=i))) t) (oJ x t (x t)) l 0 a=il (λi=>s i&&(keep i||decide (t<=i))) x l 0 a:=
     dp l 0 a (λi _ _=>by
      by_cases q:i=t
      ·subst q;simp[fm,oJ,A.1]
      ·have:(t+1<=i)=(t<=i):=by apply propext;omega
       simp[fm,oJ,q,this])
    rw[U]at hi;rw[hi];exact⟨execOp_put oj u _ _ _ O,wanted_put oj _ _ _ O⟩
   ·rw[dp (s:=λi=>s i&&(keep i||decide (t<=i))) (s':=λi=>s i&&(keep i||decide (t+1<=i))) (x':=x) l 0 a (λi _ _=>by
     refine⟨?_,λ_=>rfl⟩
     by_cases q:i=t
     ·subst q
      cases Y:s i
      ·simp
      ·cases W:keep i
       ·exact absurd ⟨Y,W⟩ A
       ·simp
     ·have:(t+1<=i)=(t<=i):=by apply propext;omega
      simp[this])]
    exact⟨rfl,rfl⟩
 have:=key l.length (aen _)
 rw[dp (s:=λi=>s i&&(keep i||decide (l.length<=i))) (s':=λi=>s i&&keep i) (x':=x) l 0 a (λi _ h=>by
  have: ¬l.length<=i:=zd
  simp[this])]at this
 exact this
def zO(P:Program)(S:Spec)(w:World):Result Next->Prop
 | .ok (.value u) w'=>S.p u w'∧Below w.heap.size w w'
 | .ok .skip w'=>S.p undef w'∧Below w.heap.size w w'
 | .ok (.enter f args) w'=>Calls P f args w' (λe w''=>∃v,e=.returned v∧S.p v w''∧Below w.heap.size w w'')
 |_=>False
def vH(P:Program)(ops:Array Oper)(S:Spec)(o:Oper)(a:Act)(w:World):Prop:=
 (Region.wanted o (yielded ops a.tmps)=true∧zO P S w ((execOp a.eval o).run P w))∨(Region.wanted o (yielded ops a.tmps)=false∧S.p undef w)
def bb(ops:Array Oper)(j i:Nat):Bool:=match ops[j]? with|some o=>o.after.any (λe=>Region.binds .any e&&e.on==i)|none=>false
def Zq(ops:Array Oper)(i j:Nat):Bool:=
 match ops[i]?,ops[j]? with
 |some oi,some oj=>(bb ops j i||oi.apart ops oj) && !bb ops i j&&(match oi.dst with|some d=>oj.dst !=some d|none=>true)&&(match oj.dst with|some d=> !(oi.looksAt ops).contains d|none=>true)
 |_,_=>true
def LV(ops:Array Oper)(j:Nat):Bool:=match ops[j]? with|some o=>o.after.all (λe=>decide (e.on<ops.size))|none=>true
def aeg(ops:Array Oper):Bool:=
 Region.noSelect ops&&(List.range ops.size).all (λj=>(List.range j).all (λi=>Zq ops i j)&&(!bb ops j j&&LV ops j)&&(decide (j+1=ops.size)||(List.range ops.size).any (λi=>decide (j<i)&&bb ops i j)))
theorem Wa{a b c:World}(u:Below a.heap.size a b)(q:Below b.heap.size b c):Below a.heap.size a c:=cV u q
theorem wpAny_done{Q:Exit->Act->World->Prop}{listed:Array Bool}{a:Act}{w:World}(h:Region.ready .any ops listed=[])(q:Q .normal a w):∀fuel,wpAny P .any ops Q fuel listed a w
 |0=>⟨h,q⟩
 |_+1=>⟨λ_=>q,λi hi=>by rw[h]at hi;cases hi⟩
def GW(s:Nat->Bool):Nat->Nat
 |0=>0
 |k+1=>GW s k+(if s k then 0 else 1)
theorem qI{s s':Nat->Bool}:∀k,(∀i,i<k->s i=s' i)->GW s k=GW s' k
 |0,_=>rfl
 |k+1,h=>by rw[GW,GW,qI k (λi hi=>h i zd),h k zd]
theorem xo{s:Nat->Bool}{i:Nat}:∀k,i<k->s i=false->GW (fm s i) k+1=GW s k
 |0,h,_=>zd
 |k+1,h,u=>by
  rw[GW,GW]
  by_cases q:i=k
  ·subst q;rw[qI (s:=fm s i) (s':=s) i (λj H=>by have:j≠i:=zd;simp[fm,this])];simp[fm,u]
  ·have:=xo (s:=s) (i:=i) k zd u
   have A:fm s i k=s k:=by simp[fm,Ne.symm q]
   rw[A];omega
theorem KU{s:Nat->Bool}{i:Nat}:∀k,i<k->s i=false->1<=GW s k:=λk h q=>by
 have:=xo (s:=s) k h q;omega
theorem Jo{s:Nat->Bool}:∀k,GW s k<=k
 |0=>aen _
 |k+1=>by have:=Jo (s:=s) k;rw[GW];split<;>omega
end
def WF(r:Option Nat):Fence:={Fence.wide with round:=r}
theorem ml(r:Option Nat)(n:Nat):(WF r).room n:=λd h=>by cases h
section
variable {P:Program} {r:Option Nat} {n:Nat} {ops:Array Oper} {Q:Exit->Act->World->Prop} {a:Act} {w:World}
theorem RZ{c:Code}{m:Nat}(h:c.wpIn (WF r) n P Q a w):c.wpIn (WF r) m P Q a w:=λb k cs u q _=>h b k cs u q (ml _ _)
theorem M9{m:Nat}{l:Nat}{f:FuncId}{tmps:Array Value}{assign body:Code}{R:Ending->World->Prop}{q:Option Nat}(h:RoundIn (WF r) n P l f tmps assign body w R):RoundIn (WF q) m P l f tmps assign body w R:=⟨trivial,λc cs _=>h.2 c cs (ml _ _)⟩
theorem nI{f:FuncId}{args:Array Value}{R:Ending->World->Prop}(h:Calls P f args w R):CallsIn (WF r) n P f args w R:=(callsIn_wide (n:=n)).2 h
theorem xR{f:FuncId}{args:Array Value}{R:Ending->World->Prop}(h:CallsIn (WF none) n P f args w R):Calls P f args w R:=(callsIn_wide (n:=n)).1 h
def dP(ops:Array Oper):Bool:=ops.all (λo=>match o.op with| .defer _=>false|_=>true)
theorem pz{i:Nat}{o:Oper}(h:dP ops=true)(q:ops[i]?=some o)(rho:Operand->Value):o.semAt r rho=execOp rho o:=by
 grind[Oper.semAt_eq,dP,Array.all_eq_true_iff_forall_mem,Array.mem_of_getElem?]
theorem Br{row:String}{args:Array Value}{R:Value->World->Prop}(h:Rows P row args w R):RowsIn (WF r) n P row args w R:=λc cs _=>by
 obtain⟨v,w',u,q⟩:=h c cs;exact⟨v,w',u,stepsIn_wide.2 q⟩
theorem gp(q:dP ops=true)(u:∀a w, ¬Q .outgrown a w):∀(l:Do)(a:Act)(w:World),wpOps P ops Q l a w->wpOpsIn (WF r) n P ops Q l a w
 | [],a,w,h=>h
 |i::rest,a,w,h=>by
  simp only[wpOps]at h;simp only[wpOpsIn]
  cases H:ops[i]? with
  |none=>
   rw[H]at h;exact gp q u rest a w h
  |some o=>
   rw[H]at h;simp only at h⊢
   split
   ·rename_i hw;rw[if_pos hw]at h
    rcases h with h|⟨_,O,w',h⟩
    ·refine⟨λf _=>trivial,?_⟩;rw[pz q H];unfold Oper.wp at h;generalize(execOp a.eval o).run P w=res at h;unfold Oper.upon at h;unfold Oper.uponIn
     split at h
     ·exact gp q u rest _ _ h
     ·exact gp q u rest _ _ h
     ·exact gp q u rest _ _ h
     ·refine⟨λe=>(by cases e),nI (h.mono λe w' A=>?_)⟩
      cases e with
      |returned v=>exact gp q u rest _ _ A
      |panicked ch=>exact A
      |outgrown=>exact A
     ·exact⟨λe=>(by cases e),Br (h.mono λv w' A=>gp q u rest _ _ A)⟩
     ·exact h
     grind
    grind
   ·rename_i hw;rw[if_neg hw]at h;exact⟨λf _=>trivial,gp q u rest _ _ h⟩
theorem ug{id:Nat}(q:P.follows .mixedOrders=true)(u:dP ops=true)(A:∀a w, ¬Q .outgrown a w)(h:wpAny P .any ops Q ops.size (Array.replicate ops.size false) a w.drew):(Code.region id ops true).wpIn (WF r) n P Q a w:=
 wpIn_region_draw λt=>by
  simp only[Region.schedule,q,Bool.true_or,if_true];exact gp u A _ _ _ (wpAny_sound ops.size t _ a _ h)
theorem Ac{c:Code}(I:Nat->Act->World->Prop){m:Nat}(h0:I m a w)(round:∀m a w,I m a w->c.wpIn (WF r) n P (Exit.then (λU w'=>∃V,I V U w'∧V<m) Q) a w):(Code.loop c).wpIn (WF r) n P Q a w:=by
 have key:∀j a w,I j a w->∀b k cs,b.roundOf=(WF r).round->∃e U w',Q e U w'∧ArrivesIn (Machine.fenced P (WF r)) P (lone (b.atR a (.code c :: .inLoop c::k)) cs w) b k cs e U w':=by
  intro j
  induction j using Nat.strongRecOn with
  |_ j ih=>
   intro a w hI b k cs u;obtain⟨e,O,H,A,q⟩:=round j a w hI b (.inLoop c::k) cs u trivial (ml _ _)
   cases e with
   |normal=>
    obtain⟨V,h1,h2⟩:=A;obtain⟨e2,a2,W,Y,arr2⟩:=ih V h2 O H h1 b k cs u;exact⟨e2,a2,W,Y,.of_steps (StepsIn.trans q (.one (fenced_calm (F:=WF r) (n:=n) trivial (ml _ _) rfl) stepR_inLoop)) arr2⟩
   |exit id=>exact⟨_,O,H,A,.pass (x:= .inLoop c) rfl (λ_ _=> .inl zk) q⟩
   |goto l=>exact⟨_,O,H,A,.pass (x:= .inLoop c) rfl (λ_ _=> .inl zk) q⟩
   |ret=>exact⟨_,O,H,A,.pass (x:= .inLoop c) rfl (λ_ _=> .inl zk) q⟩
   |panic ch=>exact⟨_,O,H,A,.pass (x:= .inLoop c) rfl (λ_ _=> .inl zk) q⟩
   |outgrown=>exact⟨_,O,H,A,.pass (x:= .inLoop c) rfl (λ_ _=> .inl zk) q⟩
 intro b k cs u _ _;obtain⟨e,U,w',A,q⟩:=key m a w h0 b k cs u;exact⟨e,U,w',A,.of_steps (.one (fenced_calm (F:=WF r) (n:=n) trivial (ml _ _) rfl) stepR_loop) q⟩
theorem DK{b:Frame}{k:List Item}{cs:List Frame}{c:Code}:step P (lone (b.atR a (.code (.scope c)::k)) cs w)=.next (lone (b.atR a (.code c :: .inScope c::k)) cs w):=
 step_lone_go (by simp[stepG,stepG.exec,Frame.atR])
theorem zw{b:Frame}{k:List Item}{cs:List Frame}{c:Code}:step P (lone (b.atR a (.inScope c::k)) cs w)=.next (lone (b.atR a k) cs w):=
 step_lone_go (by simp[stepG,stepG.exec,Frame.atR])
theorem Jt{c:Code}(h:c.wpIn (WF r) n P (Exit.noGoto Q) a w):(Code.scope c).wpIn (WF r) n P Q a w:=by
 intro b k cs U _ _;obtain⟨e,O,A,u,q⟩:=h b (.inScope c::k) cs U trivial (ml _ _);have s1:StepsIn (Machine.fenced P (WF r)) P (lone (b.atR a (.code (.scope c)::k)) cs w) (lone (b.atR a (.code c :: .inScope c::k)) cs w):= .one (fenced_calm (F:=WF r) (n:=n) trivial (ml _ _) rfl) DK
 cases e with
 |normal=>exact⟨.normal,O,A,u,s1.trans (StepsIn.trans q (.one (fenced_calm (F:=WF r) (n:=n) trivial (ml _ _) rfl) zw))⟩
 |exit id=>
  refine⟨.exit id,O,A,u,λW hk=>s1.trans (q.1 W (by grind[exitTo])),λH Y=>?_⟩;obtain⟨V,h1,h2⟩:=q.2 H (by grind[exitTo]);exact⟨V,h1,s1.trans h2⟩
 |goto l=>exact u.elim
 |ret=>exact⟨_,O,A,u,.of_steps s1 q⟩
 |panic ch=>exact⟨_,O,A,u,.of_steps s1 q⟩
 |outgrown=>exact⟨_,O,A,u,.of_steps s1 q⟩
end
end
end Go.Proofs.YtlhhccmopfamhaaGreatDoor
