/- texts of one claim, one behind the other. -/
import Derived.MapKept
import Derived.Laws.StructEq
import Derived.Test.YtlhhccmopfamhaaGreatDoorVAbs
import Derived.Attr
import Derived.WalkKit
import Derived.WalkSpells
import Derived.WalkLawsBesides
import Derived.Lib.Hide
import Derived.Still
import Derived.Tactics
import Derived.KernelRfl
import Derived.StillTactics
import Derived.RangeFuncNested
import Derived.RangeFuncLeaves
import Derived.RangeFuncRecord
set_option linter.unusedSimpArgs false
set_option linter.unusedVariables false
set_option maxRecDepth 100000
set_option maxHeartbeats 16000000
open Array renaming getElem?_push_lt -> aeP, getElem?_push -> aeQ
open Bool renaming true_eq -> aeO, not_eq_true -> aeR
open List renaming length_eq_one_iff -> aeK, drop_eq_nil_of_le -> aeL, headD_cons -> aeM, getElem?_eq_some_iff -> aek, getElem?_set_ne -> aex, getElem?_append_left -> aej, mem_of_getElem? -> aeG
open Nat renaming lt_or_ge -> aei, le_refl -> aed
open Option renaming map_eq_some_iff -> aeN
open Option.some renaming injEq -> aep
open Prod.mk renaming injEq -> aeq
namespace Go.Proofs.YtlhhccmopfamhaaGreatDoor
open Go.RowKit
section
open Go.RowKit Go.MapKept
section
variable {D:Nat->Prop} {nu:EQ} {o:AC} {w:World} {P:Program}
inductive FK where
 |b|i|s
abbrev Nm:=List FK
def kv:FK->Value->Value->Option Bool
 | .b,.bool x,.bool y=>some (x==y)
 | .i,.int k x,.int k' y=>if k=k' then some (x==y)else none
 | .s,.string x,.string y=>some (x.toList==y.toList)
 |_,_,_=>none
def s6:Nm->Id->Id->Option Bool
 | [],[],[]=>some true
 |k::ks,x::xs,y::ys=>match kv k x y,s6 ks xs ys with
  |some a,some b=>some (a&&b)
  |_,_=>none
 |_,_,_=>none
def Nq(P:Program)(g:TypeId->Option Nm):List Field->Nat->Option Nm
 | [],_=>some []
 |f::fs,off=>if f.name = "_" then none else match g f.type with
  |some ks=>if f.offset=off∧bR P f.type=some ks.length then match Nq P g fs (off+ks.length)with
   |some r=>some (ks++r)
   |none=>none
   else none
  |none=>none
def NH(P:Program):Nat->TypeId->Option Nm
 |0,_=>none
 |d+1,T=>match P.underlying T with
  |some .bool=>some [.b]
  |some (.int _)=>some [.i]
  |some .string=>some [.s]
  |some (.struct fs)=>if P.stoodInHeld T then none else Nq P (NH P d) fs.toList 0
  |_=>none
def valOf(P:Program)(T:TypeId)(xs:Id):Value:=match P.underlying T with
 |some (.struct _)=> .agg xs.toArray
 |_=>xs.headD Go.undef
theorem wW:∀{ks:Nm}{xs ys:Id}{r:Bool},s6 ks xs ys=some r->xs.length=ks.length∧ys.length=ks.length
 | [],[],[],_,_=>⟨rfl,rfl⟩
 | [],[],_::_,_,h=>by simp[s6]at h
 | [],_::_,_,_,h=>by simp[s6]at h
 |_::_,[],_,_,h=>by simp[s6]at h
 |_::_,_::_,[],_,h=>by simp[s6]at h
 |k::ks,x::xs,y::ys,r,h=>by
  simp only[s6]at h
  split at h
  ·rename_i a b A e2;obtain⟨u,q⟩:=wW e2;simp[u,q]
  ·cases h
theorem AL:∀{ks q:Nm}{xs ys:Id}{r:Bool},s6 (ks++q) xs ys=some r->∃a b,s6 ks (xs.take ks.length) (ys.take ks.length)=some a∧s6 q (xs.drop ks.length) (ys.drop ks.length)=some b∧r=(a&&b)
 | [],q,xs,ys,r,h=>⟨true,r,by simp[s6],by simpa using h,zk⟩
 |k::ks,q,[],_,_,h=>by simp[s6]at h
 |k::ks,q,_::_,[],_,h=>by simp[s6]at h
 |k::ks,q,x::xs,y::ys,r,h=>by
  simp only[List.cons_append,s6]at h
  split at h
  ·rename_i a b O e2;cases h;obtain⟨c,d,H,A,u⟩:=AL e2;refine⟨a&&c,d,?_,by simpa using A,by rw[u,Bool.and_assoc]⟩;simp[s6,O,H]
  ·cases h
theorem y8{d:Nat}{T:TypeId}{ks:Nm}(h:NH P d T=some ks)(H:bR P T=some ks.length){xs:Id}{off:Nat}(hl:off+ks.length<=xs.length) :
  (part T xs.toArray off).run P w=.ok (valOf P T ((xs.drop off).take ks.length)) w:=by
 cases d with
 |zero=>simp[NH]at h
 |succ d=>
  simp only[NH]at h
  have one:∀dd,P.underlying T=some dd->dc P T=some false->ks.length=1->valOf P T ((xs.drop off).take ks.length)=((xs.drop off).take ks.length).headD Go.undef->(part T xs.toArray off).run P w=.ok (valOf P T ((xs.drop off).take ks.length)) w:=by
   intro dd q A O hv;rw[hv,O]
   have u:off<xs.length:=zd
   have U:xs.toArray[off]?=some xs[off]:=by simp[u]
   have e:((xs.drop off).take 1).headD Go.undef=xs[off]:=by rw[List.drop_eq_getElem_cons u];rfl
   rw[e];simp[part,iR A,u]
  split at h
  ·rename_i q;cases h;exact one _ q (by simp[dc,q]) rfl (by simp[valOf,q])
  ·rename_i q;cases h;exact one _ q (by simp[dc,q]) rfl (by simp[valOf,q])
  ·rename_i q;cases h;exact one _ q (by simp[dc,q]) rfl (by simp[valOf,q])
  ·rename_i fs q
   have A:dc P T=some true:=by simp[dc,q]
   simp only[valOf,q];simp only[part,Sem.run_bind,iR A,Result.andThen_ok,if_true,run_sizeOf H,Sem.run_pure]
   congr 2
   apply Array.ext'
   simp[List.take_drop]
  ·cases h
theorem Cv{k:FK}{xs ys:Id}{r:Bool}(h:s6 [k] xs ys=some r):∃x y,xs=[x]∧ys=[y]∧kv k x y=some r:=by
 obtain⟨u,q⟩:=wW h;obtain⟨x,rfl⟩:=aeK.1 u;obtain⟨y,rfl⟩:=aeK.1 q;refine⟨x,y,rfl,rfl,?_⟩;simp only[s6]at h
 split at h
 ·rename_i a b A e2;cases e2;cases h;rw[A,Bool.and_true]
 ·cases h
theorem Zb{x y:Value}{r:Bool}(h:kv .b x y=some r):∃a b,x=.bool a∧y=.bool b∧r=(a==b):=by
 cases x<;>cases y<;>simp[kv]at h;exact⟨_,_,rfl,rfl,h.symm⟩
theorem Zd{x y:Value}{r:Bool}(h:kv .s x y=some r):∃a b,x=.string a∧y=.string b∧r=(a.toList==b.toList):=by
 cases x<;>cases y<;>simp[kv]at h;exact⟨_,_,rfl,rfl,by simpa using h.symm⟩
theorem Zc{x y:Value}{r:Bool}(h:kv .i x y=some r):∃k a b,x=.int k a∧y=.int k b∧r=(a==b):=by
 cases x<;>cases y<;>simp[kv]at h;obtain⟨rfl,h⟩:=h;exact⟨_,_,_,rfl,rfl,h.symm⟩
def NZ(P:Program)(d:Nat):Prop:=∀(T:TypeId)(ks:Nm),NH P d T=some ks->∀(d':Nat),d<=d'->∀(xs ys:Id)(r:Bool)(w:World),s6 ks xs ys=some r->(Op.equalIn d' T (valOf P T xs) (valOf P T ys)).run P w=.ok r w
theorem BM{d:Nat}(ih:NZ P d):∀(fs:List Field)(off:Nat)(ks:Nm),Nq P (NH P d) fs off=some ks->∀(d':Nat),d<=d'->∀(xs ys:Id)(r:Bool)(w:World),s6 ks (xs.drop off) (ys.drop off)=some r ->
  off+ks.length=xs.length->off+ks.length=ys.length->(Op.eqFields d' xs.toArray ys.toArray fs).run P w=.ok r w
 | [],off,ks,h,d',Y,xs,ys,r,w,u,U,O=>by
  simp only[Nq,aep]at h;subst h;have A:xs.drop off=[]:=aeL (by simp at U;omega);have e2:ys.drop off=[]:=aeL (by simp at O;omega);rw[A,e2]at u;simp only[s6,aep]at u;subst u;simp[Op.eqFields]
 |f::fs,off,ks,h,d',Y,xs,ys,r,w,u,U,O=>by
  simp only[Nq]at h
  split at h
  ·cases h
  ·rename_i hname
   split at h
   ·rename_i H A
    split at h
    ·rename_i hc
     split at h
     ·rename_i k2 e2;cases h;obtain⟨rfl,q⟩:=hc;obtain⟨a,b,h1,h2,h3⟩:=AL u;rw[List.drop_drop,List.drop_drop]at h2;have hrest:=BM ih fs (f.offset+H.length) k2 e2 d' Y xs ys b w (by simpa [Nat.add_comm]using h2) (by simp at U;omega) (by simp at O;omega);have hhead:=ih f.type H A d' Y _ _ a w h1
      have W:f.offset+H.length<=xs.length:=by simp at U;omega
      have V:f.offset+H.length<=ys.length:=by simp at O;omega
      simp only[Op.eqFields,ne_eq,hname,not_false_eq_true,if_true,Sem.run_bind,y8 A q W,y8 A q V,Result.andThen_ok,hhead];subst h3
      cases a
      ·simp
      ·simpa using hrest
     ·cases h
    ·cases h
   ·cases h
theorem Gt:∀(d:Nat),NZ P d
 |0=>λT ks h=>by simp[NH]at h
 |d+1=>λT ks h d' Y xs ys r w H=>by
  obtain⟨d',rfl⟩:∃m,d'=m+1:=⟨d' - 1,zd⟩;simp only[NH]at h
  split at h
  ·rename_i q;cases h;obtain⟨x,y,rfl,rfl,u⟩:=Cv H;obtain⟨a,b,rfl,rfl,rfl⟩:=Zb u;simp only[valOf,q,aeM];exact run_equalIn_bool' w d' T a b q
  ·rename_i k q;cases h;obtain⟨x,y,rfl,rfl,u⟩:=Cv H;obtain⟨O,a,b,rfl,rfl,rfl⟩:=Zc u;simp only[valOf,q,aeM];exact run_equalIn_int w d' T O k a b q
  ·rename_i q;cases h;obtain⟨x,y,rfl,rfl,u⟩:=Cv H;obtain⟨a,b,rfl,rfl,rfl⟩:=Zd u;simp only[valOf,q,aeM];exact run_equalIn_string w d' T a b q
  ·rename_i fs q
   split at h
   ·cases h
   ·rename_i U
    have A:P.fieldsOf T=fs:=by simp[Program.fieldsOf,q]
    simp only[valOf,q];rw[run_equalIn_struct w d' T _ _ (by rw[A];exact q) (by simpa using U),A];obtain⟨W,V⟩:=wW H;exact BM (Gt d) fs.toList 0 ks h d' zd xs ys r w (by simpa using H) zd zd
  ·cases h
def lW(P:Program)(T:TypeId):Option Nm:=if P.eqGuardType P.depth T then none else match P.underlying T with
 |some (.struct _)=>NH P 12 T
 |_=>none
def lE:Nm->C5->C5->Option Bool
 | [],[],[]=>some true
 |k::ks,.v x::xs,.v y::ys=>match kv k x y,lE ks xs ys with
  |some a,some b=>some (a&&b)
  |_,_=>none
 |_,_,_=>none
theorem qm:∀{ks:Nm}{cs ds:C5}{r:Bool},lE ks cs ds=some r->∃xs ys,cs=xs.map AV.v∧ds=ys.map AV.v∧s6 ks xs ys=some r
 | [],[],[],_,h=>⟨[],[],rfl,rfl,by simpa [lE,s6]using h⟩
 | [],[],_::_,_,h=>by simp[lE]at h
 | [],_::_,_,_,h=>by simp[lE]at h
 |k::ks,cs,ds,r,h=>by
  unfold lE at h
  split at h
  ·exact absurd ‹k::ks=[]› zk
  ·rename_i U A x xs y ys e;cases e
   split at h
   ·rename_i a b O e2;obtain⟨u,q,rfl,rfl,H⟩:=qm e2;refine⟨x::u,y::q,rfl,rfl,?_⟩;simp only[s6,O,H];exact h
   ·cases h
  ·cases h
theorem RA.RP{a:AV}{x y:Value}(h:RA D nu o w a y)(e:a=.v x):y=x:=by subst e;cases h;rfl
theorem RA.di{x y:Value}(h:RA D nu o w (.v x) y):y=x:=by cases h;rfl
theorem j0{xs:Id}{x:Value}(h:RA D nu o w (.agg (xs.map AV.v)) x):x=.agg xs.toArray:=by
 cases h with
 |agg _ ys A u O=>
  congr 1
  apply Array.ext
  ·simpa using A.symm
  ·intro i q q2
   have H:(xs.map AV.v)[i]?=some (.v xs[i]):=by simp at q2;simp[q2]
   have:=(u i _ _ H (Array.getElem?_eq_getElem q)).di
   simp[this]
theorem pB{T:TypeId}{cs ds:C5}{x y:Value}{ks:Nm}{rr:Bool}(q:lW P T=some ks)(U:lE ks cs ds=some rr)(A:RA D nu o w (.agg cs) x)(u:RA D nu o w (.agg ds) y):∃xs ys,x=.agg xs∧y=.agg ys∧P.eqGuardType P.depth T=false∧(Op.equalIn 10000 T (.agg xs) (.agg ys)).run P w=.ok rr w:=by
 unfold lW at q
 split at q
 ·cases q
 ·rename_i H
  split at q
  ·rename_i fs hu;obtain⟨xs,ys,rfl,rfl,O⟩:=qm U;refine⟨_,_,j0 A,j0 u,by simpa using H,?_⟩
   have:=Gt (P:=P) 12 T ks q 10000 zd xs ys rr w O
   simpa only[valOf,hu]using this
  ·cases q
end
open Go.RowKit Go.MapKept
def dH:TypeDesc->Value->Bool
 | .int k,.int k' _=>decide (k=k')
 | .string,.string _=>true
 | .bool,.bool _=>true
 |_,_=>false
theorem gv{d:TypeDesc}{k:Value}(h:dH d k=true):IsKey d k:=by
 cases d<;>cases k<;>simp_all[dH,IsKey]
theorem sJ{s t:ByteArray}(h:s.toList=t.toList):s=t:=by
 rw[ByteArray.toList_eq,ByteArray.toList_eq]at h;obtain⟨⟨a⟩⟩:=s;simp_all
def fx:Value->Value->Bool
 | .int _ a,.int _ b=>a==b
 | .string a,.string b=>a.toList==b.toList
 | .bool a,.bool b=>a==b
 |_,_=>false
theorem yB{d:TypeDesc}{a b:Value}(u:dH d a=true)(q:dH d b=true):Instr.sameNow d a b=some (fx a b)∧(fx a b=true->b=a):=by
 cases d<;>cases a<;>simp only[dH,Bool.false_eq_true,decide_eq_true_eq]at u<;>cases b<;>simp only[dH,Bool.false_eq_true,decide_eq_true_eq]at q
 ·simp only[Instr.sameNow,fx,true_and,beq_iff_eq];grind
 ·subst u;subst q;simp only[Instr.sameNow,fx,if_true,true_and,beq_iff_eq];grind
 ·rename_i x y
  have e:(x==y)=(x.toList==y.toList):=by
   rw[Bool.eq_iff_iff,bytes_beq,beq_iff_eq]
   grind[sJ]
  simp only[Instr.sameNow,fx,e,true_and,beq_iff_eq,Value.string.injEq]
  grind[sJ]
theorem RA.plain{D:Nat->Prop}{nu:EQ}{o:AC}{w:World}{x y:Value}(h:RA D nu o w (.v x) y):y=x:=by cases h;rfl
def o9(d:TypeDesc)(k:Value):List C5->Option (Option AV)
 | []=>some none
 | [.v k',x]::l=>if dH d k' then if fx k k' then some (some x)else o9 d k l else none
 |_=>none
def nF(d:TypeDesc)(k:Value)(x:AV):List C5->Option (List C5)
 | []=>some [[.v k,x]]
 | [.v k',y]::l=>if dH d k' then if fx k k' then some ([.v k,x]::l)else(nF d k x l).map ([.v k',y] :: ·)else none
 |_=>none
section
variable {D:Nat->Prop} {nu:EQ} {o:AC} {w:World} {P:Program}
theorem uy{d:TypeDesc}{k:Value}(U:dH d k=true):∀(rows:List C5)(es:List MapEntry)(i:Nat)(r:Option AV),es.length=rows.length->(∀(j:Nat)row c e,rows[j]?=some row->row[0]?=some c->es[j]?=some e->RA D nu o w c e.key)->o9 d k rows=some r ->
  (r=none∧Instr.findNow d k es i=some none)∨∃j c e row,r=some c∧Instr.findNow d k es i=some (some (i+j,e.val))∧rows[j]?=some row∧row[1]?=some c∧es[j]?=some e
 | [],[],i,r,_,_,h=>by
  simp only[o9,aep]at h;exact .inl ⟨h.symm,rfl⟩
 | [],_::_,i,r,hl,_,_=>by simp at hl
 |_::_,[],i,r,hl,_,_=>by simp at hl
 |row::l,e::es,i,r,hl,H,h=>by
  unfold o9 at h
  split at h
  ·grind
  ·rename_i A x l' e1;cases e1
   split at h
   ·rename_i hk';have O:e.key=A:=(H 0 _ (.v A) e rfl rfl rfl).plain;obtain⟨h1,h2⟩:=yB U hk'
    split at h
    ·rename_i he;cases h;refine .inr ⟨0,x,e,_,rfl,?_,rfl,rfl,rfl⟩
     grind[Instr.findNow]
    ·rename_i he
     have Y:fx k A=false:=by grind
     rcases uy U l es (i+1) r (by grind) (λj row c e u q W=>H (j+1) row c e (by grind) q (by grind)) h with⟨u,q⟩|⟨j,c,e2,row2,u,q,W,V,q5⟩
     ·grind[Instr.findNow]
     ·exact .inr ⟨j+1,c,e2,row2,u,by grind[Instr.findNow],by grind,V,by grind⟩
   ·cases h
  ·cases h
theorem Au{d:TypeDesc}{k:Value}{x:AV}(V:dH d k=true):∀(rows:List C5)(es:List MapEntry)(i:Nat)(rows':List C5),es.length=rows.length->(∀(j:Nat)row c e,rows[j]?=some row->row[0]?=some c->es[j]?=some e->RA D nu o w c e.key)->nF d k x rows=some rows' ->
  (rows'=rows++[[.v k,x]]∧Instr.findNow d k es i=some none)∨∃j e,rows'=rows.set j [.v k,x]∧Instr.findNow d k es i=some (some (i+j,e.val))∧es[j]?=some e∧e.key=k
 | [],[],i,r,_,_,h=>by
  simp only[nF,aep]at h;exact .inl ⟨h.symm,rfl⟩
 | [],_::_,i,r,hl,_,_=>by simp at hl
 |_::_,[],i,r,hl,_,_=>by simp at hl
 |row::l,e::es,i,r,hl,O,h=>by
  unfold nF at h
  split at h
  ·grind
  ·rename_i A y l' e1;cases e1
   split at h
   ·rename_i hk';have U:e.key=A:=(O 0 _ (.v A) e rfl rfl rfl).plain;obtain⟨h1,h2⟩:=yB V hk'
    split at h
    ·rename_i he;cases h;refine .inr ⟨0,e,rfl,?_,rfl,by grind⟩
     grind[Instr.findNow]
    ·rename_i he
     have he':fx k A=false:=by grind
     obtain⟨W,H,rfl⟩:=aeN.1 h
     rcases Au V l es (i+1) W (by grind) (λj row c e u q q3=>O (j+1) row c e (by grind) q (by grind)) H with⟨u,q⟩|⟨j,e2,u,q,q3,Y⟩
     ·grind[Instr.findNow]
     ·exact .inr ⟨j+1,e2,by rw[u];rfl,by grind[Instr.findNow],by grind,Y⟩
   ·cases h
  ·cases h
def kN(ks:Nm)(k:C5):List C5->Option (Option AV)
 | []=>some none
 | [.agg k',x]::l=>match lE ks k k' with
  |some true=>some (some x)
  |some false=>kN ks k l
  |none=>none
 |_=>none
def mc(ks:Nm)(k:C5)(x:AV):List C5->Option (List C5)
 | []=>some [[.agg k,x]]
 | [.agg k',y]::l=>match lE ks k k' with
  |some true=>some ([.agg k,x]::l)
  |some false=>(mc ks k x l).map ([.agg k',y] :: ·)
  |none=>none
 |_=>none
theorem EY:∀{ks:Nm}{xs ys:Id},s6 ks xs ys=some true->xs=ys∧∀x∈xs,∀n,Instr.sameBits n x x=true
 | [],[],[],_=>⟨rfl,λx h=>by cases h⟩
 | [],[],_::_,h=>by grind[s6]
 | [],_::_,_,h=>by grind[s6]
 |_::_,[],_,h=>by grind[s6]
 |_::_,_::_,[],h=>by grind[s6]
 |k::ks,x::xs,y::ys,h=>by
  simp only[s6]at h
  split at h
  ·rename_i a b q e2;simp only[aep,Bool.and_eq_true]at h;obtain⟨rfl,rfl⟩:=h;obtain⟨rfl,A⟩:=EY e2
   have u:x=y∧∀n,Instr.sameBits n x x=true:=by
    cases k
    ·obtain⟨a,b,rfl,rfl,h⟩:=Zb q;simp only[aeO,beq_iff_eq]at h;subst h;exact⟨rfl,λn=>by grind[Instr.sameBits]⟩
    ·obtain⟨k,a,b,rfl,rfl,h⟩:=Zc q;simp only[aeO,beq_iff_eq]at h;subst h;exact⟨rfl,λn=>by grind[Instr.sameBits]⟩
    ·obtain⟨a,b,rfl,rfl,h⟩:=Zd q;simp only[aeO,beq_iff_eq]at h;obtain rfl:=sJ h;exact⟨rfl,λn=>by grind[Instr.sameBits,bytes_beq]⟩
   grind
  ·cases h
theorem GU{n:Nat}:∀{l:Id},(∀x∈l,Instr.sameBits n x x=true)->(l.zip l).all (λp=>Instr.sameBits n p.1 p.2)=true
 | [],_=>rfl
 |x::l,h=>by
  simp only[List.zip_cons_cons,List.all_cons,Bool.and_eq_true];exact⟨h x List.mem_cons_self,GU λy q=>h y (List.mem_cons_of_mem _ q)⟩
theorem Af{xs:Array Value}(h:∀x∈xs.toList,∀n,Instr.sameBits n x x=true):(Instr.keyThatStays (.agg xs) (.agg xs)).run P w=.ok (.agg xs) w:=by
 have e:Instr.sameBits 10000 (.agg xs) (.agg xs)=true:=by
  rw[show(10000:Nat)=9999+1 from rfl,Instr.sameBits];simp only[beq_self_eq_true,Bool.true_and];exact GU λx q=>h x q 9999
 simp[Instr.keyThatStays,e]
theorem sP(em:Bool):∀(d:Nat)(T:TypeId)(ks:Nm),NH P d T=some ks->∀(n:Nat),d<=n->∀(w:World)(xs:Id),xs.length=ks.length->(Instr.checkKey em n T (valOf P T xs)).run P w=.ok () w
 |0,T,ks,h,_,_,_,_,_=>by grind[NH]
 |d+1,T,ks,h,n,hn,w,xs,hl=>by
  obtain⟨n,rfl⟩:∃m,n=m+1:=⟨n-1,zd⟩;simp only[NH]at h
  split at h
  ·rename_i q;simp[Instr.checkKey,run_underlying q]
  ·rename_i q;simp[Instr.checkKey,run_underlying q]
  ·rename_i q;simp[Instr.checkKey,run_underlying q]
  ·rename_i fs q
   split at h
   ·cases h
   ·have ih:=sP em d;rw[show valOf P T xs=.agg xs.toArray by grind[valOf],Instr.checkKey];simp only[Sem.run_bind,run_underlying q,Result.andThen_ok];rw[<-Array.forIn_toList]
    have u:0+ks.length<=xs.length:=zd
    clear hl;generalize fs.toList=L at h;generalize 0=off at h u
    induction L generalizing off ks with
    |nil=>simp
    |cons f L ihL=>
     simp only[Nq]at h
     split at h
     ·cases h
     ·rename_i hname
      split at h
      ·rename_i A O
       split at h
       ·rename_i hc
        split at h
        ·rename_i W Y;cases h;obtain⟨rfl,H⟩:=hc;rw[List.length_append]at u;have V:=y8 (w:=w) O H (xs:=xs) (off:=f.offset) zd;have U:=ih f.type A O n zd w ((xs.drop f.offset).take A.length) ahn;simp only[List.forIn_cons,Sem.run_bind,hname,ne_eq,not_false_eq_true,if_true,Result.andThen_ok,V,U,Sem.run_pure];exact ihL W (f.offset+A.length) Y zd
        ·cases h
       ·cases h
      ·cases h
  ·cases h
theorem Ae{kt:TypeId}{ks:Nm}(q:lW P kt=some ks)(em:Bool){xs:Array Value}(hl:xs.size=ks.length):(Instr.checkKey em 10000 kt (.agg xs)).run P w=.ok () w:=by
 unfold lW at q
 split at q
 ·cases q
 ·split at q
  ·rename_i fs hu
   have:=sP (P:=P) em 12 kt ks q 10000 zd w xs.toList zd
   simpa only[valOf,hu]using this
  ·cases q
theorem Rx{kt:TypeId}{ks:Nm}(q:lW P kt=some ks):∃fs,P.underlying kt=some (.struct fs):=by
 grind[lW]
theorem cv{kt:TypeId}{ks:Nm}(u:lW P kt=some ks)(k:Value)(es:List MapEntry):(Instr.findKey kt k es).run P w=(Instr.findAsking kt k es 0).run P w:=by
 obtain⟨fs,q⟩:=Rx u
 cases es with
 |nil=>simp[Instr.findKey,run_underlying q,Instr.findNow,Instr.findAsking]
 |cons e es=>simp[Instr.findKey,run_underlying q,Instr.findNow,Instr.sameNow]
theorem ry{kt:TypeId}{ks:Nm}(W:lW P kt=some ks){k:C5}{kx:Value}(Y:RA D nu o w (.agg k) kx):∀(rows:List C5)(es:List MapEntry)(i:Nat)(r:Option AV),es.length=rows.length->(∀(j:Nat)row c e,rows[j]?=some row->row[0]?=some c->es[j]?=some e->RA D nu o w c e.key)->kN ks k rows=some r ->
  (r=none∧(Instr.findAsking kt kx es i).run P w=.ok none w)∨∃j c e row,r=some c∧(Instr.findAsking kt kx es i).run P w=.ok (some (i+j,e.val)) w∧rows[j]?=some row∧row[1]?=some c∧es[j]?=some e
 | [],[],i,r,_,_,h=>by
  simp only[kN,aep]at h;exact .inl ⟨h.symm,by simp[Instr.findAsking]⟩
 | [],_::_,i,r,hl,_,_=>by simp at hl
 |_::_,[],i,r,hl,_,_=>by simp at hl
 |row::l,e::es,i,r,hl,hr,h=>by
  unfold kN at h
  split at h
  ·cases ‹row::l=[]›
  ·rename_i k' x l' e1;cases e1;have H:=hr 0 _ (.agg k') e rfl rfl rfl
   split at h
   ·rename_i he;cases h;obtain⟨xs,ys,U,O,_,q⟩:=pB W he Y H;refine .inr ⟨0,x,e,_,rfl,?_,rfl,rfl,rfl⟩;rw[U,Instr.findAsking,O];simp[Op.equal,Op.maxDepth,q]
   ·rename_i he;obtain⟨xs,ys,U,O,_,q⟩:=pB W he Y H
    rcases ry W Y l es (i+1) r (by simpa using hl) (λj row c e A u V=>hr (j+1) row c e (by simpa using A) u (by simpa using V)) h with⟨A,u⟩|⟨j,c,e2,row2,A,u,V,q4,q5⟩
    ·refine .inl ⟨A,?_⟩;rw[<-U]at q;rw[Instr.findAsking,O];simp[Op.equal,Op.maxDepth,q,u]
    ·refine .inr ⟨j+1,c,e2,row2,A,?_,by simpa using V,q4,by simpa using q5⟩;rw[<-U]at q;rw[Instr.findAsking,O];simp[Op.equal,Op.maxDepth,q,u];omega
   ·cases h
  ·cases h
theorem rB{kt:TypeId}{ks:Nm}(ht:lW P kt=some ks){k:C5}{kx:Value}{x:AV}(O:RA D nu o w (.agg k) kx):∀(rows:List C5)(es:List MapEntry)(i:Nat)(rows':List C5),es.length=rows.length->(∀(j:Nat)row c e,rows[j]?=some row->row[0]?=some c->es[j]?=some e->RA D nu o w c e.key)->mc ks k x rows=some rows' ->
  (rows'=rows++[[.agg k,x]]∧(Instr.findAsking kt kx es i).run P w=.ok none w)∨∃j e,rows'=rows.set j [.agg k,x]∧(Instr.findAsking kt kx es i).run P w=.ok (some (i+j,e.val)) w∧es[j]?=some e∧e.key=kx∧(Instr.keyThatStays kx kx).run P w=.ok kx w
 | [],[],i,r,_,_,h=>by
  simp only[mc,aep]at h;exact .inl ⟨h.symm,by simp[Instr.findAsking]⟩
 | [],_::_,i,r,hl,_,_=>by simp at hl
 |_::_,[],i,r,hl,_,_=>by simp at hl
 |row::l,e::es,i,r,hl,hr,h=>by
  unfold mc at h
  split at h
  ·cases ‹row::l=[]›
  ·rename_i k' y l' W;cases W;have q:=hr 0 _ (.agg k') e rfl rfl rfl
   split at h
   ·rename_i U;cases h;obtain⟨xs',ys',rfl,rfl,h3⟩:=qm U;obtain⟨rfl,hb⟩:=EY h3;obtain⟨xs,ys,h1,V,_,H⟩:=pB ht U O q;have W:=j0 O;have e2:=j0 q;refine .inr ⟨0,e,rfl,?_,rfl,by rw[W,e2],by rw[W];exact Af λx hx=>hb x (by simpa using hx)⟩;rw[h1,Instr.findAsking,V];simp[Op.equal,Op.maxDepth,H]
   ·rename_i U;obtain⟨r2,hr2,rfl⟩:=aeN.1 h;obtain⟨xs,ys,h1,V,_,H⟩:=pB ht U O q;rw[<-h1]at H
    rcases rB ht O l es (i+1) r2 (by simpa using hl) (λj row c e A u Y=>hr (j+1) row c e (by simpa using A) u (by simpa using Y)) hr2 with⟨A,u⟩|⟨j,e2,A,u,Y,q4,q5⟩
    ·refine .inl ⟨by rw[A];rfl,?_⟩;rw[Instr.findAsking,V];simp[Op.equal,Op.maxDepth,H,u]
    ·refine .inr ⟨j+1,e2,by rw[A];rfl,?_,by simpa using Y,q4,q5⟩;rw[Instr.findAsking,V];simp[Op.equal,Op.maxDepth,H,u];omega
   ·cases h
  ·cases h
def Lo(P:Program)(T:TypeId)(o:AC):AV->Option (TypeDesc×TypeId×Nat×aa)
 | .vec id 0=>match P.underlying T with
  |some (.map kt et)=>match P.underlying kt,o[id]? with
   |some d,some (some ob)=>some (d,et,id,ob)
   |_,_=>none
  |_=>none
 |_=>none
theorem Ap{T:TypeId}{m:AV}{d:TypeDesc}{et:TypeId}{id:Nat}{ob:aa}{v:Value}(h:RO D nu o w)(U:RA D nu o w m v)(q:Lo P T o m=some (d,et,id,ob))(hV:ob.fc=false)(Y:ob.z=0) :
  ∃kt g es cl,P.underlying T=some (.map kt et)∧P.underlying kt=some d∧o[id]?=some (some ob)∧v=.map (some g)∧B9 D nu o w id ob g es cl:=by
 unfold Lo at q
 split at q
 ·split at q
  ·rename_i kt W H
   split at q
   ·rename_i d' ob' V A;cases q;cases U
    rcases h.obj id ob A with⟨e1,_⟩|⟨g,cur,O⟩|⟨g,es,cl,u⟩
    ·grind
    ·have:=O.z;omega
    ·exact⟨kt,g,es,cl,H,V,A,u.wH,u⟩
   ·cases q
  ·cases q
 ·cases q
theorem Dm(h:RO D nu o w)(P:Program)(T:TypeId):Good D nu o w ((Instr.makeMap T none).run P w) (.vec o.length 0) (o++[some ⟨T,0,false,[]⟩]):=by
 have u:Below w.heap.size w (w.alloc (.map #[] 0)):=(Below.refl _ _).alloc (Nat.le_refl _) _
 have q:∀b,dW (Value.map (some w.heap.size))=some b->w.heap.size<=b:=λb e=>by cases e;omega
 have A:=iP (nu:=nu) (o:=o) (ob:=⟨T,0,false,[]⟩) u q;refine⟨_,_,iB nu o.length (.map (some w.heap.size)),rfl,A,oD h u q (.inr (.inr ⟨w.heap.size, #[],0,(MapKept.heap_alloc w _).1,h.up _ (Nat.le_refl _),bX _ _ _ _,rfl,rfl,rfl,λi row hi=>by simp at hi,λi row c e hi=>by simp at hi,λi row c e hi=>by simp at hi,λi e hi=>by simp at hi,λi j e O hi=>by simp at hi⟩)),?_⟩
 have:=RA.vec (D:=D) (nu:=iB nu o.length (.map (some w.heap.size))) (o:=o++[some ⟨T,0,false,[]⟩]) (w:=w.alloc (.map #[] 0)) o.length 0 ⟨_,List.getElem?_concat_length,λx H=>Nat.zero_le _⟩ (by rw[bX];rfl)
 rwa [bX]at this
theorem UQ{w':World}{id:Nat}{ob ob':aa}(h:RO D nu o w)(ho:o[id]?=some (some ob))(hl:ob'.hl=ob.hl){g:Nat}(hg:dW (nu id ob.hl)=some g)
  (Y:cf nu o w nu (o.set id (some ob')) w')(h5:∀b,b≠g->w'.heap[b]?=w.heap[b]?){es:Array MapEntry}{cl:Nat}(hn:B9 D nu (o.set id (some ob')) w' id ob' g es cl):RO D nu (o.set id (some ob')) w':=by
 have hlt:=(aek.1 ho).1
 refine⟨?_,λb hb=>h.up b (Nat.le_trans Y.size hb),?_,h.gl.mono Y (λ_ _ h=>h)⟩
 ·intro u ob'' U
  by_cases he:id=u
  ·grind
  ·rw[aex he]at U
   rcases h.obj u ob'' U with e|⟨O,cur',A⟩|⟨O,es,cl,W⟩
   ·exact .inl e
   ·have H:O≠g:=λe=>h.sep id u ob ob'' g ho U he hg (by rw[<-e];exact A.b8);exact .inr (.inl ⟨O,cur',(h5 O H).trans A.ez,A.o4,A.box,A.vec,A.z,A.row,λi j row c x q1 q2 q3=>(A.cell i j row c x q1 q2 q3).mono Y (λ_ _ h=>h),A.one⟩)
   ·have H:O≠g:=λe=>h.sep id u ob ob'' g ho U he hg (by rw[<-e];exact W.b8);exact .inr (.inr ⟨O,es,cl,W.tr (h5 O H) (λh=>h) rfl (λi j row c x _ _ A=>A.mono Y (λ_ _ h=>h))⟩)
 ·intro i1 i2 b1 b2 b U k2 H k3
  have key:∀(u:Nat)(ob'':aa),(o.set id (some ob'))[u]?=some (some ob'')->∃V:aa,o[u]?=some (some V)∧V.hl=ob''.hl:=λu ob'' q=>by
   grind
  obtain⟨o1,m1,n1⟩:=key i1 b1 U;obtain⟨o2,m2,n2⟩:=key i2 b2 k2;rw[<-n2];rw[<-n1]at k3;exact h.sep i1 i2 o1 o2 b m1 m2 H k3
theorem pU{T kt et:TypeId}{x kc:AV}{k vx:Value}{id g cl:Nat}{es:Array MapEntry}{ob:aa}{rows':List C5}(h:RO D nu o w)(hx:RA D nu o w x vx)(hkc:RA D nu o w kc k)(hu:P.underlying T=some (.map kt et))(ho:o[id]?=some (some ob))(u:B9 D nu o w id ob g es cl)(hV:ob.fc=false)(hz:ob.z=0)
  (hck:(Instr.checkKey false 10000 kt k).run P w=.ok () w)(hs:(rows'=ob.rows++[[kc,x]]∧(Instr.findKey kt k es.toList).run P w=.ok none w)∨∃j e,rows'=ob.rows.set j [kc,x]∧(Instr.findKey kt k es.toList).run P w=.ok (some (j,e.val)) w∧es.toList[j]?=some e∧e.key=k∧(Instr.keyThatStays k k).run P w=.ok k w) :
  ∃w',(Instr.mapUpdate T (.map (some g)) k vx).run P w=.ok () w'∧cf nu o w nu (o.set id (some {ob with rows:=rows'})) w'∧RO D nu (o.set id (some {ob with rows:=rows'})) w':=by
 have hlt:=(aek.1 ho).1
 have hsz:es.toList.length=ob.rows.length:=by simpa using u.sz
 have hl:({ob with rows:=rows'}:aa).hl=ob.hl:=by grind[aa.hl]

 have fin:∀(H:Array MapEntry)(V:Nat),H.size=rows'.length->(∀(i:Nat)row,rows'[i]?=some row->row.length=2)->(∀(i:Nat)row c e,rows'[i]?=some row->row[0]?=some c->H[i]?=some e->RA D nu o w c e.key)->(∀(i:Nat)row c e,rows'[i]?=some row->row[1]?=some c->H[i]?=some e->RA D nu o w c e.val) ->
   (∀(i:Nat)e,H[i]?=some e->e.born<V)->(∀(i j:Nat)e e',H[i]?=some e->H[j]?=some e'->i<j->e.born<e'.born) ->
   cf nu o w nu (o.set id (some {ob with rows:=rows'})) {w with heap:=w.heap.setIfInBounds g (.map H V)}∧RO D nu (o.set id (some {ob with rows:=rows'})) {w with heap:=w.heap.setIfInBounds g (.map H V)}:=λH V p1 p2 p3 p4 p5 p6=>by
  have hh:=MapKept.heap_set (w:=w) (o':= .map H V) u.ez
  have hmono:cf nu o w nu (o.set id (some {ob with rows:=rows'})) {w with heap:=w.heap.setIfInBounds g (.map H V)}:=
   kp ho hl u.b8 rfl rfl rfl zk (λb hb=>hh.2 b hb)
  refine⟨hmono,UQ h ho hl u.b8 hmono (λb hb=>hh.2 b hb) ⟨hh.1,u.o4,u.wH,hV,hz,p1,p2,λi row c e U W O=>(p3 i row c e U W O).mono hmono (λ_ _ h=>h),λi row c e U W O=>(p4 i row c e U W O).mono hmono (λ_ _ h=>h),p5,p6⟩⟩
 rcases hs with⟨rfl,hf⟩|⟨j,e0,rfl,hf,he0,hek,hst⟩
 ·refine⟨_,?_,fin (es.push {key:=k,val:=vx,born:=cl}) (cl+1) (by simp[u.sz]) (λi row hi=>?_) (λi row c e U W O=>?_) (λi row c e U W O=>?_) (λi e hi=>?_) (λi j e e' hi hj A=>?_)⟩
  ·simp[Instr.mapUpdate,run_underlying hu,MapKept.run_getObj_map u.ez,hck,hf,MapKept.run_setObj_map _ u.ez,Result.andThen]
  ·rcases aei i ob.rows.length with q|q
   ·rw[aej q]at hi;exact u.row i row hi
   grind
  ·rcases aei i ob.rows.length with q|q
   ·rw[aej q]at U;rw[aeP (by grind)]at O;exact u.key i row c e U W (by grind)
   grind
  ·rcases aei i ob.rows.length with q|q
   ·rw[aej q]at U;rw[aeP (by grind)]at O;exact u.val i row c e U W (by grind)
   grind
  ·rw[aeQ]at hi
   split at hi
   ·grind
   ·exact Nat.lt_succ_of_lt (u.born i e hi)
  ·rw[aeQ]at hi hj
   split at hj
   ·cases hj
    split at hi
    ·omega
    ·exact u.born i e hi
   ·split at hi
    ·grind
    ·exact u.qT i j e e' hi hj A
 ·have hj0:es[j]?=some e0:=by grind
  have hjl:=(Array.getElem?_eq_some_iff.1 hj0).1
  have Y:∀i,(es.modify j λe=>{e with key:=k,val:=vx})[i]?=if j=i then(es[i]?).map (λe=>{e with key:=k,val:=vx})else es[i]? :=λi=>by grind
  have hbn:∀(i:Nat)e,(es.modify j λe=>{e with key:=k,val:=vx})[i]?=some e->∃e1,es[i]?=some e1∧e1.born=e.born:=λi e hi=>by
   grind
  refine⟨_,?_,fin (es.modify j λe=>{e with key:=k,val:=vx}) cl (by simp[u.sz]) (λi row hi=>?_) (λi row c e U W O=>?_) (λi row c e U W O=>?_) (λi e hi=>?_) (λi j' e e' hi hj A=>?_)⟩
  ·simp[Instr.mapUpdate,run_underlying hu,MapKept.run_getObj_map u.ez,hck,hf,hj0,hek,hst,MapKept.run_setObj_map _ u.ez,Result.andThen]
  ·by_cases A:j=i
   ·grind
   ·rw[aex A]at hi;exact u.row i row hi
  ·rw[Y]at O
   by_cases A:j=i
   ·grind
   ·rw[aex A]at U;rw[if_neg A]at O;exact u.key i row c e U W O
  ·rw[Y]at O
   by_cases A:j=i
   ·grind
   ·rw[aex A]at U;rw[if_neg A]at O;exact u.val i row c e U W O
  ·obtain⟨e1,k1,k2⟩:=hbn i e hi;rw[<-k2];exact u.born i e1 k1
  ·obtain⟨e1,k1,k2⟩:=hbn i e hi;obtain⟨e2,k3,k4⟩:=hbn j' e' hj;rw[<-k2, <- k4];exact u.qT i j' e1 e2 k1 k3 A
theorem yN{T:TypeId}{m x:AV}{k v vx:Value}{d:TypeDesc}{et:TypeId}{id:Nat}{ob:aa}{rows':List C5}(h:RO D nu o w)(hm:RA D nu o w m v)(hx:RA D nu o w x vx)(ha:Lo P T o m=some (d,et,id,ob))(hV:ob.fc=false)(V:ob.z=0)(W:dH d k=true)
  (hs:nF d k x ob.rows=some rows'):∃w',(Instr.mapUpdate T v k vx).run P w=.ok () w'∧cf nu o w nu (o.set id (some {ob with rows:=rows'})) w'∧RO D nu (o.set id (some {ob with rows:=rows'})) w':=by
 obtain⟨kt,g,es,cl,hu,u,ho,rfl,q⟩:=Ap h hm ha hV V;have A:=gv W
 have H:es.toList.length=ob.rows.length:=by simpa using q.sz
 refine pU h hx (.v k) hu ho q hV V (run_checkKey u A _ _) ?_
 rcases Au W ob.rows es.toList 0 rows' H (λj row c e q1 q2 q3=>q.key j row c e q1 q2 (by grind)) hs with⟨h1,Y⟩|⟨j,e0,h1,Y,U,O⟩
 ·grind[run_findKey]
 ·exact .inr ⟨j,e0,h1,by rw[run_findKey u Y,Nat.zero_add],U,O,run_keyThatStays A⟩
def sD(P:Program)(T:TypeId)(o:AC):AV->Option (TypeId×TypeId×Nat×aa)
 | .vec id 0=>match P.underlying T,o[id]? with
  |some (.map kt et),some (some ob)=>some (kt,et,id,ob)
  |_,_=>none
 |_=>none
theorem rA{T:TypeId}{m:AV}{kt et:TypeId}{id:Nat}{ob:aa}{v:Value}(h:RO D nu o w)(V:RA D nu o w m v)(q:sD P T o m=some (kt,et,id,ob))(hV:ob.fc=false)(Y:ob.z=0) :
  ∃g es cl,P.underlying T=some (.map kt et)∧o[id]?=some (some ob)∧v=.map (some g)∧B9 D nu o w id ob g es cl:=by
 unfold sD at q
 split at q
 ·split at q
  ·rename_i H W ob' O A;cases q;cases V
   rcases h.obj id ob A with⟨e1,_⟩|⟨g,cur,U⟩|⟨g,es,cl,u⟩
   ·grind
   ·have:=U.z;omega
   ·exact⟨g,es,cl,O,A,u.wH,u⟩
  ·cases q
 ·cases q
theorem Ia{kt:TypeId}{ks:Nm}{k:C5}{kx:Value}(u:lW P kt=some ks)(A:RA D nu o w (.agg k) kx)(q:lE ks k k=some true)(em:Bool):(Instr.checkKey em 10000 kt kx).run P w=.ok () w:=by
 obtain⟨xs,_,rfl,_,H⟩:=qm q;rw[j0 A];exact Ae u em (by simpa using(wW H).1)
theorem kH{T:TypeId}{m x:AV}{k:C5}{kx v vx:Value}{kt et:TypeId}{ks:Nm}{id:Nat}{ob:aa}{rows':List C5}(h:RO D nu o w)(hm:RA D nu o w m v)(O:RA D nu o w (.agg k) kx)(hx:RA D nu o w x vx)(ha:sD P T o m=some (kt,et,id,ob))(u:lW P kt=some ks)(hV:ob.fc=false)(W:ob.z=0)(hw:lE ks k k=some true)
  (hs:mc ks k x ob.rows=some rows'):∃w',(Instr.mapUpdate T v kx vx).run P w=.ok () w'∧cf nu o w nu (o.set id (some {ob with rows:=rows'})) w'∧RO D nu (o.set id (some {ob with rows:=rows'})) w':=by
 obtain⟨g,es,cl,hu,ho,rfl,q⟩:=rA h hm ha hV W
 have A:es.toList.length=ob.rows.length:=by simpa using q.sz
 refine pU h hx O hu ho q hV W (Ia u O hw _) ?_
 rcases rB u O ob.rows es.toList 0 rows' A (λj row c e q1 q2 q3=>q.key j row c e q1 q2 (by grind)) hs with⟨h1,Y⟩|⟨j,e0,h1,Y,V,U,H⟩
 ·grind[cv]
 ·exact .inr ⟨j,e0,h1,by rw[cv u,Y,Nat.zero_add],V,U,H⟩
def vO(P:Program)(T:TypeId):Option AV:=match P.info? T with
 |some i=>match i.zero with
  |some (.agg xs)=>if xs.toList.all (·.oneCell')then some (.agg (xs.toList.map AV.v))else none
  |some zv=>some (.v zv)
  |none=>none
 |none=>none
theorem nH{T:TypeId}{c:AV}(h:vO P T=some c):∃zv,(zeroValue T).run P w=.ok zv w∧RA D nu o w c zv:=by
 unfold vO at h
 split at h
 ·rename_i i hi
  split at h
  ·rename_i xs hz
   split at h
   ·rename_i hall;cases h
    refine⟨.agg xs,by simp[zeroValue,typeInfo,hi,hz],.agg _ _ zk (λi c x u H=>?_) (λi x q=>?_)⟩
    ·rw[List.getElem?_map]at u
     have:xs.toList[i]?=some x:=by grind
     rw[this]at u;cases u;exact .v _
    grind
   ·cases h
  ·rename_i zv A hz;cases h;exact⟨zv,by simp[zeroValue,typeInfo,hi,hz],.v _⟩
  ·cases h
 ·cases h
def Ci(P:Program)(T:TypeId)(o:AC)(m k:AV)(ok:Bool):Option (Prop×AV):=match Lo P T o m,k with
 |some (d,et,_,ob),.v kv=>if dH d kv then match o9 d kv ob.rows with
  |some (some c)=>some (ob.fc=false∧ob.z=0,if ok then .ck [c,.v (.bool true)]else c)
  |some none=>match vO P et with
   |some z=>some (ob.fc=false∧ob.z=0,if ok then .ck [z,.v (.bool false)]else z)
   |none=>none
  |none=>none
  else none
 |_,_=>none
theorem RA.pair{c:AV}{x:Value}{b:Bool}(h:RA D nu o w c x):RA D nu o w (.ck [c,.v (.bool b)]) (.tuple #[x,.bool b]):=by
 refine .ck _ _ rfl (λi a y q u=>?_)
 match i,q,u with
 |0,q,u=>grind
 |1,q,u=>cases q;cases u;exact .v _
 |i+2,q,u=>simp at q
theorem Er{T:TypeId}{m k:AV}{vm vk:Value}{ok:Bool}{p:Prop}{r:AV}(h:RO D nu o w)(hm:RA D nu o w m vm)(hk:RA D nu o w k vk)(H:Ci P T o m k ok=some (p,r))(hp:p):∃v,(Instr.lookup T vm vk ok).run P w=.ok v w∧RA D nu o w r v:=by
 unfold Ci at H
 split at H
 ·rename_i d et id ob kv e1;obtain rfl:=hk.plain
  split at H
  ·rename_i O
   have fin:ob.fc=false∧ob.z=0->∀q,o9 d vk ob.rows=some q->∃kt g es cl,P.underlying T=some (.map kt et)∧P.underlying kt=some d∧vm=.map (some g)∧w.heap[g]?=some (.map es cl)∧B9 D nu o w id ob g es cl ∧
     ((q=none∧Instr.findNow d vk es.toList 0=some none)∨∃j c e row,q=some c∧Instr.findNow d vk es.toList 0=some (some (0+j,e.val))∧ob.rows[j]?=some row∧row[1]?=some c∧es.toList[j]?=some e):=λhh q hq=>by
    obtain⟨kt,g,es,cl,W,u,ho,rfl,A⟩:=Ap h hm e1 hh.1 hh.2;exact⟨kt,g,es,cl,W,u,rfl,A.ez,A,uy O ob.rows es.toList 0 q (by simpa using A.sz) (λj row c e V U q3=>A.key j row c e V U (by grind)) hq⟩
   split at H
   ·rename_i c hq;simp only[aep,aeq]at H;obtain⟨rfl,rfl⟩:=H;obtain⟨kt,g,es,cl,W,u,rfl,hb,A,hf⟩:=fin hp _ hq
    rcases hf with⟨V,_⟩|⟨j,c',e,row,V,U,q3,q4,q5⟩
    ·cases V
    ·cases V;have Y:RA D nu o w c e.val:=A.val j row c e q3 q4 (by grind)
     cases ok
     ·exact⟨e.val,by simp[Instr.lookup,run_underlying W,MapKept.run_getObj_map hb,run_checkKey u (gv O),run_findKey u U,Result.andThen],Y⟩
     ·exact⟨.tuple #[e.val,.bool true],by simp[Instr.lookup,run_underlying W,MapKept.run_getObj_map hb,run_checkKey u (gv O),run_findKey u U,Result.andThen],Y.pair⟩
   ·rename_i hq
    split at H
    ·rename_i z hz;simp only[aep,aeq]at H;obtain⟨rfl,rfl⟩:=H;obtain⟨kt,g,es,cl,W,u,rfl,hb,A,hf⟩:=fin hp _ hq
     rcases hf with⟨_,U⟩|⟨j,c',e,row,V,_⟩
     ·obtain⟨zv,z1,z2⟩:=nH (D:=D) (nu:=nu) (o:=o) (w:=w) hz
      cases ok
      ·exact⟨zv,by simp[Instr.lookup,run_underlying W,MapKept.run_getObj_map hb,run_checkKey u (gv O),run_findKey u U,z1,Result.andThen],z2⟩
      ·exact⟨.tuple #[zv,.bool false],by simp[Instr.lookup,run_underlying W,MapKept.run_getObj_map hb,run_checkKey u (gv O),run_findKey u U,z1,Result.andThen],z2.pair⟩
     ·cases V
    ·cases H
   ·cases H
  ·cases H
 ·cases H
def Ch(P:Program)(T:TypeId)(rows:List C5)(k:AV)(ok:Bool):Option (Prop×AV):=match P.underlying T,k with
 |some (.map kt et),.v kv=>match P.underlying kt with
  |some d=>if dH d kv then match o9 d kv rows with
   |some (some c)=>some (True,if ok then .ck [c,.v (.bool true)]else c)
   |some none=>match vO P et with
    |some z=>some (True,if ok then .ck [z,.v (.bool false)]else z)
    |none=>none
   |none=>none
   else none
  |none=>none
 |_,_=>none
theorem Ep{T:TypeId}{rows:List C5}{k:AV}{vm vk:Value}{ok:Bool}{p:Prop}{r:AV}(hm:RA D nu o w (.mp rows) vm)(hk:RA D nu o w k vk)(A:Ch P T rows k ok=some (p,r)):∃v,(Instr.lookup T vm vk ok).run P w=.ok v w∧RA D nu o w r v:=by
 unfold Ch at A
 split at A
 ·rename_i kt et kv Y;obtain rfl:=hk.plain
  split at A
  ·rename_i d u
   split at A
   ·rename_i H
    cases hm with
    |mp _ b es cl h1 hb h3 h4 h5 h6 h7=>
    have fin:=λq W=>uy (D:=D) (nu:=nu) (o:=o) (w:=w) H rows es.toList 0 q zd (λj row c e U O q3=>h7 j 0 row c e U O (by grind)) W
    split at A
    ·rename_i c W;simp only[aep,aeq]at A;obtain⟨rfl,rfl⟩:=A
     rcases fin _ W with⟨U,_⟩|⟨j,c',e,row,U,O,q3,q4,q5⟩
     ·cases U
     ·cases U;have V:RA D nu o w c e.val:=h7 j 1 row c e q3 q4 (by grind)
      cases ok
      ·exact⟨e.val,by simp[Instr.lookup,run_underlying Y,MapKept.run_getObj_map hb,run_checkKey u (gv H),run_findKey u O,Result.andThen],V⟩
      ·exact⟨.tuple #[e.val,.bool true],by simp[Instr.lookup,run_underlying Y,MapKept.run_getObj_map hb,run_checkKey u (gv H),run_findKey u O,Result.andThen],V.pair⟩
    ·rename_i W
     split at A
     ·rename_i z hz;simp only[aep,aeq]at A;obtain⟨rfl,rfl⟩:=A
      rcases fin _ W with⟨_,O⟩|⟨j,c',e,row,U,_⟩
      ·obtain⟨zv,z1,z2⟩:=nH (D:=D) (nu:=nu) (o:=o) (w:=w) hz
       cases ok
       ·exact⟨zv,by simp[Instr.lookup,run_underlying Y,MapKept.run_getObj_map hb,run_checkKey u (gv H),run_findKey u O,z1,Result.andThen],z2⟩
       ·exact⟨.tuple #[zv,.bool false],by simp[Instr.lookup,run_underlying Y,MapKept.run_getObj_map hb,run_checkKey u (gv H),run_findKey u O,z1,Result.andThen],z2.pair⟩
      ·cases U
     ·cases A
    ·cases A
   ·cases A
  ·cases A
 ·cases A
def mA(P:Program)(et:TypeId)(ks:Nm)(rows:List C5)(k:C5)(ok:Bool):Option AV:=if lE ks k k=some true then match kN ks k rows with
 |some (some c)=>some (if ok then .ck [c,.v (.bool true)]else c)
 |some none=>match vO P et with
  |some z=>some (if ok then .ck [z,.v (.bool false)]else z)
  |none=>none
 |none=>none
 else none
theorem rz{T kt et:TypeId}{ks:Nm}{rows:List C5}{k:C5}{kx:Value}{ok:Bool}{r:AV}{g cl:Nat}{es:Array MapEntry}(hu:P.underlying T=some (.map kt et))(U:lW P kt=some ks)(hk:RA D nu o w (.agg k) kx)(hb:w.heap[g]?=some (.map es cl))(hsz:es.size=rows.length)
  (hkey:∀(i:Nat)row c e,rows[i]?=some row->row[0]?=some c->es[i]?=some e->RA D nu o w c e.key)(V:∀(i:Nat)row c e,rows[i]?=some row->row[1]?=some c->es[i]?=some e->RA D nu o w c e.val)(A:mA P et ks rows k ok=some r):∃v,(Instr.lookup T (.map (some g)) kx ok).run P w=.ok v w∧RA D nu o w r v:=by
 unfold mA at A
 split at A
 ·rename_i hw;have u:=λem=>Ia (P:=P) U hk hw em;have fin:=λq Y=>ry U hk rows es.toList 0 q zd (λj row c e O H q3=>hkey j row c e O H (by grind)) Y
  split at A
  ·rename_i c Y;cases A
   rcases fin _ Y with⟨O,_⟩|⟨j,c',e,row,O,H,q3,q4,q5⟩
   ·cases O
   ·cases O;have W:RA D nu o w c e.val:=V j row c e q3 q4 (by grind)
    cases ok
    ·exact⟨e.val,by simp[Instr.lookup,run_underlying hu,MapKept.run_getObj_map hb,u,cv U,H,Result.andThen],W⟩
    ·exact⟨.tuple #[e.val,.bool true],by simp[Instr.lookup,run_underlying hu,MapKept.run_getObj_map hb,u,cv U,H,Result.andThen],W.pair⟩
  ·rename_i Y
   split at A
   ·rename_i z hz;cases A
    rcases fin _ Y with⟨_,H⟩|⟨j,c',e,row,O,_⟩
    ·obtain⟨zv,z1,z2⟩:=nH (D:=D) (nu:=nu) (o:=o) (w:=w) hz
     cases ok
     ·exact⟨zv,by simp[Instr.lookup,run_underlying hu,MapKept.run_getObj_map hb,u,cv U,H,z1,Result.andThen],z2⟩
     ·exact⟨.tuple #[zv,.bool false],by simp[Instr.lookup,run_underlying hu,MapKept.run_getObj_map hb,u,cv U,H,z1,Result.andThen],z2.pair⟩
    ·cases O
   ·cases A
  ·cases A
 ·cases A
def uz(P:Program)(T:TypeId)(o:AC)(m:AV)(k:C5)(ok:Bool):Option (Prop×AV):=match m,P.underlying T with
 | .mp rows,some (.map kt et)=>match lW P kt with
  |some ks=>(mA P et ks rows k ok).map (True, ·)
  |none=>none
 | .vec id 0,some (.map kt et)=>match lW P kt,o[id]? with
  |some ks,some (some ob)=>(mA P et ks ob.rows k ok).map (ob.fc=false∧ob.z=0, ·)
  |_,_=>none
 |_,_=>none
theorem vM{T:TypeId}{m:AV}{k:C5}{vm vk:Value}{ok:Bool}{p:Prop}{r:AV}(h:RO D nu o w)(hm:RA D nu o w m vm)(hk:RA D nu o w (.agg k) vk)(u:uz P T o m k ok=some (p,r))(Y:p):∃v,(Instr.lookup T vm vk ok).run P w=.ok v w∧RA D nu o w r v:=by
 unfold uz at u
 split at u
 ·rename_i rows kt et U
  split at u
  ·rename_i ks V;obtain⟨r',W,e⟩:=aeN.1 u;cases e
   cases hm with
   |mp _ b es cl h1 hb h3 h4 h5 h6 h7=>exact rz U V hk hb h3 (λi row c e O H A=>h7 i 0 row c e O H A) (λi row c e O H A=>h7 i 1 row c e O H A) W
  ·cases u
 ·rename_i id kt et U
  split at u
  ·rename_i ks ob V ho;obtain⟨r',W,e⟩:=aeN.1 u;cases e
   have e0:sD P T o (.vec id 0)=some (kt,et,id,ob):=by grind[sD]
   obtain⟨g,es,cl,hu',ho',rfl,q⟩:=rA h hm e0 Y.1 Y.2;exact rz U V hk q.ez q.sz q.key q.val W
  ·cases u
 ·cases u
def Eo(P:Program)(T:TypeId)(o:AC)(m k:AV)(ok:Bool):Option (Prop×AV):=match k with
 | .agg ks=>uz P T o m ks ok
 | .v kv=>match m with
  | .mp rows=>Ch P T rows (.v kv) ok
  | .vec id len=>Ci P T o (.vec id len) (.v kv) ok
  |_=>none
 |_=>none
theorem xG{T:TypeId}{m k:AV}{vm vk:Value}{ok:Bool}{p:Prop}{r:AV}(h:RO D nu o w)(A:RA D nu o w m vm)(H:RA D nu o w k vk)(q:Eo P T o m k ok=some (p,r))(u:p):∃v,(Instr.lookup T vm vk ok).run P w=.ok v w∧RA D nu o w r v:=by
 unfold Eo at q
 grind[vM,Ep,Er]
def xH(P:Program)(T:TypeId)(o:AC)(m k x:AV):Option (Prop×AC):=match k with
 | .agg kc=>match sD P T o m with
  |some (kt,_,id,ob)=>match lW P kt with
   |some ks=>if lE ks kc kc=some true then match mc ks kc x ob.rows with
    |some rows=>some (ob.fc=false∧ob.z=0,o.set id (some ⟨ob.T,ob.z,ob.fc,rows⟩))
    |none=>none
    else none
   |none=>none
  |none=>none
 | .v kv=>match Lo P T o m with
  |some (d,_,id,ob)=>if dH d kv then match nF d kv x ob.rows with
   |some rows=>some (ob.fc=false∧ob.z=0,o.set id (some ⟨ob.T,ob.z,ob.fc,rows⟩))
   |none=>none
   else none
  |none=>none
 |_=>none
theorem vN{T:TypeId}{m k x:AV}{vm vk vx:Value}{p:Prop}{o':AC}(h:RO D nu o w)(O:RA D nu o w m vm)(u:RA D nu o w k vk)(A:RA D nu o w x vx)(q:xH P T o m k x=some (p,o'))(H:p) :
  ∃w',(Instr.mapUpdate T vm vk vx).run P w=.ok () w'∧cf nu o w nu o' w'∧RO D nu o' w':=by
 unfold xH at q
 split at q
 ·grind[aep,aeq,kH]
 ·split at q
  ·rename_i kv d et id ob e1;obtain rfl:=u.plain
   grind[aep,aeq,yN]
  ·cases q
 ·cases q
end
end
section
attribute [go_sem_proc] Nat.reduceAdd Nat.reduceSub Nat.reduceMul Nat.reduceLeDiff Nat.reduceEqDiff Nat.reduceLT Int.reduceToNat reduceCtorEq Int.reduceLE Int.reduceLT Int.reduceNeg Int.reduceEq Int.reduceBEq Int.reduceBNe
attribute [go_sem_proc ↓] reduceIte
open Go.RowKit
inductive Ex where
 |mk (kind:Int) (label:ByteArray) (kids:List Ex)
abbrev IO:=List Ex
def Ex.kind:Ex->Int| .mk k _ _=>k
def Ex.label:Ex->ByteArray| .mk _ s _=>s
def Ex.kids:Ex->IO| .mk _ _ l=>l
theorem Ex.ind{P:Ex->Prop}(h:∀k s kids,(∀x,x∈kids->P x)->P (.mk k s kids)):∀x,P x:=
 @Ex.rec P (λl=>∀x,x∈l->P x) (λk s kids ih=>h k s kids ih) (λx q=>by cases q) (λO tl H A x q=>by
  cases q with
  |head=>exact H
  |tail _ u=>exact A x u)
def Hh(w:World)(v:Value)(e:Ending)(w':World):Prop:=e=.returned v∧Below w.heap.size w w'
theorem ou{w:World}{b o:Nat}{v:Value}(h:w.cell? ⟨b,o,none⟩=some v):b<w.heap.size:=by
 rcases Nat.lt_or_ge b w.heap.size with q|q
 ·exact q
 ·simp[World.cell?,Array.getElem?_eq_none q]at h
theorem H9{w w':World}(q:Below w.heap.size w w'){b o:Nat}{v:Value}(h:w.cell? ⟨b,o,none⟩=some v):w'.cell? ⟨b,o,none⟩=some v:=
 (q.cell (p:=⟨b,o,none⟩) (ou h)).trans h
theorem cV{w q u:World}(h:Below w.heap.size w q)(k:Below q.heap.size q u):Below w.heap.size w u:=h.trans (k.mono h.size)
theorem Below.RM{w w':World}(h:Below w.drew.heap.size w.drew w'):Below w.heap.size w w':=⟨h.os,h.tape,h.output,h.size,h.block⟩
theorem dE(w:World):Below w.heap.size w w.drew:=(Below.refl _ _).drew
theorem cK{w w':World}{v:Value}{b q:Bool}(u:v=.bool b)(h:b=q)(A:Below w.heap.size w w'):Hh w (.bool q) (.returned v) w':=⟨by rw[u,h],A⟩
def Lm(w:World)(v:Value)(e:Ending)(w':World):Prop:=e=.returned v∧w=w'
theorem zp{w:World}{v:Value}{b q:Bool}(u:v=.bool b)(h:b=q):Lm w (.bool q) (.returned v) w:=⟨by rw[u,h],rfl⟩
theorem QY{w:World}{v:Value}{b q:Int}(u:v=.int .i64 b)(h:b=q):Lm w (.int .i64 q) (.returned v) w:=⟨by rw[u,h],rfl⟩
def ff(w:World)(b o:Nat):Id->Prop
 | []=>True
 |v::vs=>w.cell? ⟨b,o,none⟩=some v∧ff w b (o+1) vs
def Cells(w w':World):Prop:=∀b o v,w.cell? ⟨b,o,none⟩=some v->w'.cell? ⟨b,o,none⟩=some v
theorem Cells.of{w w':World}(q:Below w.heap.size w w'):Cells w w':=λ_ _ _ h=>H9 q h
theorem Cells.trans{a b c:World}(h:Cells a b)(k:Cells b c):Cells a c:=λx o v q=>k x o v (h x o v q)
theorem ff.cells{w w':World}(q:Cells w w'):∀{vs:Id}{b o:Nat},ff w b o vs->ff w' b o vs
 | [],_,_,_=>trivial
 |_::_,_,_,h=>⟨q _ _ _ h.1,h.2.cells q⟩
theorem ff.below{w w':World}(q:Below w.heap.size w w'){vs:Id}{b o:Nat}(h:ff w b o vs):ff w' b o vs:=h.cells (.of q)
def jX{α:Type}(w:World)(sz:Nat)(rd:α->Id->Prop)(xs:List α)(v:Value):Prop:=
 ((v=.slice none 0 0∨∃a:Addr,v=.slice (some a) 0 0)∧xs=[])∨∃b o cap,v=.slice (some ⟨b,o,none⟩) xs.length cap∧xs.length<=cap∧cap<=maxLen ∧
  ∀i x,xs[i]?=some x->∃cs,rd x cs∧ff w b (o+i*sz) cs
theorem jX.ab0{α:Type}{w w':World}{sz:Nat}{rd q:α->Id->Prop}{xs:List α}{v:Value}(h:jX w sz rd xs v)
  (V:Cells w w')(u:∀x cs,x∈xs->rd x cs->q x cs):jX w' sz q xs v:=by
 rcases h with h|⟨b,o,cap,O,h1,Y,W⟩
 ·exact .inl h
 ·refine .inr ⟨b,o,cap,O,h1,Y,λi x A=>?_⟩;obtain⟨cs,U,H⟩:=W i x A;exact⟨cs,u x cs (aeG A) U,H.cells V⟩
theorem jX.imp{α:Type}{w w':World}{sz:Nat}{rd q:α->Id->Prop}{xs:List α}{v:Value}(h:jX w sz rd xs v)
  (V:Below w.heap.size w w')(u:∀x cs,x∈xs->rd x cs->q x cs):jX w' sz q xs v:=by
 rcases h with h|⟨b,o,cap,O,h1,Y,W⟩
 ·exact .inl h
 ·refine .inr ⟨b,o,cap,O,h1,Y,λi x A=>?_⟩;obtain⟨cs,U,H⟩:=W i x A;exact⟨cs,u x cs (aeG A) U,H.below V⟩
theorem jX.below{α:Type}{w w':World}{sz:Nat}{rd:α->Id->Prop}{xs:List α}{v:Value}(h:jX w sz rd xs v)
  (q:Below w.heap.size w w'):jX w' sz rd xs v:=h.imp q (λ_ _ _ h=>h)
theorem jX.shape{α:Type}{w:World}{sz:Nat}{rd:α->Id->Prop}{xs:List α}{v:Value}(h:jX w sz rd xs v) :
  ∃p cap,v=.slice p xs.length cap∧xs.length<=cap∧cap<=maxLen:=by
 rcases h with⟨rfl|⟨a,rfl⟩,rfl⟩|⟨b,o,cap,q,A,u,H⟩
 ·exact⟨none,0,rfl,aed _,by unfold maxLen;omega⟩
 ·exact⟨some a,0,rfl,aed _,by unfold maxLen;omega⟩
 ·exact⟨_,cap,q,A,u⟩
theorem jX.at{α:Type}{w:World}{sz:Nat}{rd:α->Id->Prop}{xs:List α}{p:Option Addr}{n cap:Nat}(h:jX w sz rd xs (.slice p n cap))
  {k:Nat}(q:k<xs.length):∃b o cs,p=some ⟨b,o,none⟩∧rd xs[k] cs∧ff w b (o+k*sz) cs:=by
 rcases h with⟨_,rfl⟩|⟨b,o,cap,A,V,U,O⟩
 ·simp at q
 ·obtain⟨cs,H,u⟩:=O k xs[k] (by simp[q]);cases A;exact⟨b,o,cs,rfl,H,u⟩
mutual
def iv(w:World):Ex->Id->Prop
 | .mk k s kids,cs=>∃sv,cs=[.int .i64 k,.string s,sv]∧kL w kids sv
def kL(w:World):IO->Value->Prop
 | [],v=>(v=.slice none 0 0∨∃a:Addr,v=.slice (some a) 0 0)∨∃b o cap,v=.slice (some ⟨b,o,none⟩) 0 cap∧cap<=maxLen
 |x::xs,v=>∃b o cap cs,v=.slice (some ⟨b,o,none⟩) (xs.length+1) cap∧xs.length+1<=cap∧cap<=maxLen∧iv w x cs∧ff w b o cs∧xB w b (o+3) xs
def xB(w:World)(b:Nat):Nat->IO->Prop
 |_,[]=>True
 |o,x::xs=>∃cs,iv w x cs∧ff w b o cs∧xB w b (o+3) xs
end
theorem qF{w:World}{b:Nat}:∀{xs:IO}{o:Nat},xB w b o xs ↔ ∀i x,xs[i]?=some x->∃cs,iv w x cs∧ff w b (o+i*3) cs
 | [],o=>⟨λ_ i x h=>by simp at h,λ_=>by simp[xB]⟩
 |y::ys,o=>by
  rw[xB]
  constructor
  ·rintro⟨cs,U,O,V⟩ i x u
   cases i with
   |zero=>simp at u;subst u;exact⟨cs,U,by simpa using O⟩
   |succ i=>
    obtain⟨q,H,A⟩:=qF.1 V i x (by simpa using u);exact⟨q,H,by rw[show o+(i+1)*3=o+3+i*3 by omega];exact A⟩
  ·intro h;obtain⟨cs,U,O⟩:=h 0 y zk;refine⟨cs,U,by simpa using O,qF.2 λi x u=>?_⟩;obtain⟨q,H,A⟩:=h (i+1) x (by simpa using u);exact⟨q,H,by rw[show o+3+i*3=o+(i+1)*3 by omega];exact A⟩
theorem jN{w:World}:∀{xs:IO}{v:Value},kL w xs v↔jX w 3 (iv w) xs v
 | [],v=>by
  rw[kL]
  constructor
  ·rintro(h|⟨b,o,cap,u,q⟩)
   ·exact .inl ⟨h,rfl⟩
   ·exact .inr ⟨b,o,cap,by simpa using u,zk,q,λi x h=>by simp at h⟩
  ·rintro(h|⟨b,o,cap,u,_,q,_⟩)
   ·exact .inl h.1
   ·exact .inr ⟨b,o,cap,by simpa using u,q⟩
 |x::xs,v=>by
  rw[kL]
  constructor
  ·rintro⟨b,o,cap,cs,u,q,U,O,H,A⟩;refine .inr ⟨b,o,cap,by simpa using u,by simpa using q,U,?_⟩
   have:=(qF (xs:=x::xs) (o:=o)).1 (by rw[xB];exact⟨cs,O,H,A⟩)
   exact this
  ·rintro(⟨_,h⟩|⟨b,o,cap,u,q,U,O⟩)
   ·cases h
   ·have:=(qF (xs:=x::xs) (o:=o)).2 O
    rw[xB]at this;obtain⟨cs,H,A,V⟩:=this;exact⟨b,o,cap,cs,by simpa using u,by simpa using q,U,H,A,V⟩
theorem iv.cells{w w':World}(u:Cells w w'):∀x:Ex,∀cs,iv w x cs->iv w' x cs:=by
 intro x
 induction x using Ex.ind with
 |h k s kids ih=>
  intro cs h;rw[iv]at h⊢;obtain⟨sv,H,A⟩:=h;exact⟨sv,H,jN.2 ((jN.1 A).ab0 u (λx cs q=>ih x q cs))⟩
theorem iv.below{w w':World}(q:Below w.heap.size w w')(x:Ex)(cs:Id)(h:iv w x cs):iv w' x cs:=iv.cells (.of q) x cs h
theorem kL.below{w w':World}(q:Below w.heap.size w w'){xs:IO}{v:Value}(h:kL w xs v):kL w' xs v:=
 jN.2 ((jN.1 h).imp q (λx cs _=>iv.below q x cs))
theorem kL.shape{w:World}{xs:IO}{v:Value}(h:kL w xs v):∃p cap,v=.slice p xs.length cap∧xs.length<=cap∧cap<=maxLen:=(jN.1 h).shape
theorem kL.at{w:World}{xs:IO}{p:Option Addr}{n cap:Nat}(h:kL w xs (.slice p n cap)){k:Nat}(O:k<xs.length) :
  ∃b o kd s kids sv,p=some ⟨b,o,none⟩∧xs[k]=.mk kd s kids∧kL w kids sv ∧
   w.cell? ⟨b,o+k*3,none⟩=some (.int .i64 kd)∧w.cell? ⟨b,o+k*3+1,none⟩=some (.string s)∧w.cell? ⟨b,o+k*3+2,none⟩=some sv:=by
 obtain⟨b,o,cs,H,q,u⟩:=(jN.1 h).at O
 rcases A:xs[k]with⟨kd,s,kids⟩
 rw[A,iv]at q;obtain⟨sv,rfl,q⟩:=q;exact⟨b,o,kd,s,kids,sv,H,rfl,q,u.1,u.2.1,u.2.2.1⟩
def nI{α β:Type}(f:α->β->Bool):List α->List β->Bool
 | [],[]=>true
 |x::xs,y::ys=>f x y&&nI f xs ys
 |_,_=>false
theorem sF{α β:Type}{f:α->β->Bool}:∀{xs:List α}{ys:List β},nI f xs ys=true↔xs.length=ys.length∧∀i(h:i<xs.length)(A:i<ys.length),f xs[i] ys[i]=true
 | [],[]=>by simp[nI]
 | [],_::_=>by simp[nI]
 |_::_,[]=>by simp[nI]
 |x::xs,y::ys=>by
  simp only[nI,Bool.and_eq_true,sF,List.length_cons]
  constructor
  ·rintro⟨u,q,H⟩;refine⟨zd,λi h A=>?_⟩
   cases i with
   |zero=>exact u
   |succ i=>exact H i zd zd
  ·rintro⟨u,q⟩;exact⟨q 0 zd zd,zd,λi h A=>q (i+1) zd zd⟩
theorem Oh{α β:Type}{f:α->β->Bool}{xs:List α}{ys:List β}(h:xs.length≠ys.length):nI f xs ys=false:=by
 rw[<-aeR,sF];exactλq=>h q.1
theorem SG{α β:Type}{f:α->β->Bool}{xs:List α}{ys:List β}{k:Nat}(h:k<xs.length)(A:k<ys.length)(q:f xs[k] ys[k]=false):nI f xs ys=false:=by
 rw[<-aeR,sF];exactλu=>by rw[u.2 k h A]at q;cases q
mutual
def jb:Ex->Ex->Bool
 | .mk k s l,.mk k' s' l'=>(k==k')&&(s.toList==s'.toList)&&mi l l'
def mi:IO->IO->Bool
 | [],[]=>true
 |x::xs,y::ys=>jb x y&&mi xs ys
 |_,_=>false
end
theorem rM:∀xs ys,mi xs ys=nI jb xs ys
 | [],[]=>by simp[mi,nI]
 | [],_::_=>by simp[mi,nI]
 |_::_,[]=>by simp[mi,nI]
 |x::xs,y::ys=>by simp[mi,nI,rM xs ys]
theorem wB(k u:Int)(s s':ByteArray)(l q:IO):jb (.mk k s l) (.mk u s' q)=((k==u)&&(s.toList==s'.toList)&&nI jb l q):=by
 rw[jb,rM]
structure Hk where
 kind:Int
 num:Int
 text:ByteArray
structure zO where
 kind:Int
 name:ByteArray
 key:ByteArray
 val:Hk
structure JF where
 op:Int
 left:zO
 right:zO
structure qV where
 bN:ByteArray
 to:ByteArray
 path:Bool
 label:ByteArray
 name:ByteArray
 expr:Ex
abbrev PP:=List qV
structure Ll where
 wJ:PP
 conds:List JF
 ret:List zO
 range:Int
 Rl:Int
def Hk.cells(x:Hk):Id:=[.int .i64 x.kind,.int .i64 x.num,.string x.text]
def zO.cells(x:zO):Id:=[.int .i64 x.kind,.string x.name,.string x.key,.int .i64 x.val.kind,.int .i64 x.val.num,.string x.val.text]
def JF.cells(x:JF):Id:=[.int .i64 x.op,.int .i64 x.left.kind,.string x.left.name,.string x.left.key,.int .i64 x.left.val.kind,.int .i64 x.left.val.num,.string x.left.val.text,
 .int .i64 x.right.kind,.string x.right.name,.string x.right.key,.int .i64 x.right.val.kind,.int .i64 x.right.val.num,.string x.right.val.text]
def fR(s t:ByteArray):Bool:=s.toList==t.toList
def YE(w:World)(p:qV)(cs:Id):Prop:=
 ∃k s l sv,p.expr=.mk k s l∧kL w l sv∧cs=[.string p.bN,.string p.to,.bool p.path,.string p.label,.string p.name,.int .i64 k,.string s,sv]
def YD(p:zO)(cs:Id):Prop:=cs=p.cells
def YA(p:JF)(cs:Id):Prop:=cs=p.cells
def Vk(p:ByteArray)(cs:Id):Prop:=cs=[.string p]
def YB(p:Int)(cs:Id):Prop:=cs=[.int .i64 p]
abbrev V4(w:World)(xs:PP)(v:Value):Prop:=jX w 8 (YE w) xs v
abbrev V3(w:World)(xs:List zO)(v:Value):Prop:=jX w 6 YD xs v
abbrev V2(w:World)(xs:List JF)(v:Value):Prop:=jX w 13 YA xs v
abbrev rq(w:World)(xs:B0)(v:Value):Prop:=jX w 1 Vk xs v
abbrev abU(w:World)(xs:M2)(v:Value):Prop:=jX w 1 YB xs v
def adf(w:World)(q:Ll)(cs:Id):Prop:=
 ∃v1 v2 v3,V4 w q.wJ v1∧V2 w q.conds v2∧V3 w q.ret v3∧cs=[v1,v2,v3,.int .i64 q.range,.int .i64 q.Rl]
def pe(c:Int):Bool:=decide (97<=c)&&decide (c<=122)
def gX(c:Int):Bool:=pe c||c==95||(decide (48<=c)&&decide (c<=57))
def fV(s:ByteArray):Bool:=s.data.toList.all (λb=>gX b.toNat)&&decide (1<=s.size)&&decide (s.size<=20)
theorem gu(f:UInt8->Bool)(s:ByteArray):s.data.toList.all f=true ↔ ∀j(h:j<s.size),f s[j]=true:=by
 rw[List.all_eq_true]
 constructor
 ·intro h j q;exact h _ (by simp[ByteArray.getElem_eq_getElem_data])
 ·intro h x hx;obtain⟨j,q,rfl⟩:=List.getElem_of_mem hx;exact h j (by simpa using q)
theorem GD{s:ByteArray}{j:Nat}(h:j<s.size)(q:gX s[j].toNat=false):fV s=false:=by
 have:s.data.toList.all (λb=>gX b.toNat)=false:=by
  rw[<-aeR,gu];exactλu=>by rw[u j h]at q;cases q
 simp[fV,this]
theorem Nx{s:ByteArray}(h:∀j(h:j<s.size),gX s[j].toNat=true):fV s=(decide (1<=s.size)&&decide (s.size<=20)):=by
 rw[fV,(gu _ s).2 h,Bool.true_and]
theorem lZ(s:ByteArray):s.toList.isEmpty=decide (s.size=0):=by
 rw[ByteArray.toList_eq];obtain⟨⟨l⟩⟩:=s;cases l<;>simp[ByteArray.size]
def words:B0:=[⟨#[97,115]⟩,⟨#[109,97,116,99,104]⟩,⟨#[119,104,101,114,101]⟩,⟨#[97,110,100]⟩,⟨#[114,101,116,117,114,110]⟩,⟨#[114,97,110,103,101]⟩,⟨#[115,108,105,100,101]⟩]
theorem Jd{α:Type}{W:World}{n:Nat}{C:Array Value}{t:TypeId}{fz:Nat×Nat}(h:W.heap[n]?=some (.cells C t fz)){sz:Nat}{rd:α->Id->Prop}{xs:List α}
  (f:α->Id)(U:∀x,x∈xs->rd x (f x))(A:∀x,x∈xs->(f x).length=sz)(V:C.toList=xs.flatMap f){m cap:Nat}(Y:m=xs.length)(hc:m<=cap)(H:cap<=maxLen) :
  jX W sz rd xs (.slice (some ⟨n,0,none⟩) m cap):=by
 subst Y;refine .inr ⟨n,0,cap,rfl,hc,H,λi x q=>⟨f x,U x (aeG q),?_⟩⟩
 have key:∀(l:List α)(i:Nat)(x:α),(∀x,x∈l->(f x).length=sz)->l[i]?=some x->∀j v,(f x)[j]?=some v->(l.flatMap f)[i*sz+j]?=some v:=by
  intro l
  induction l with
  |nil=>intro i x _ h;simp at h
  |cons y l ih=>
   intro i x hl q j v u;rw[List.flatMap_cons]
   cases i with
   |zero=>
    simp at q;subst q;rw[List.getElem?_append_left (by rw[Nat.zero_mul,Nat.zero_add];exact(List.getElem?_eq_some_iff.1 u).1)];simpa using u
   |succ i=>
    have O:=hl y zk;rw[List.getElem?_append_right (by rw[O,Nat.succ_mul];omega),O,show(i+1)*sz+j-sz=i*sz+j by rw[Nat.succ_mul];omega];exact ih i x (λx q=>hl x (by simp[q])) (by simpa using q) j v u
 have hcell:∀j v,(f x)[j]?=some v->W.cell? ⟨n,0+i*sz+j,none⟩=some v:=by
  intro j v u
  have:=key xs i x A q j v u
  rw[<-V]at this;simp only[World.cell?,h];simpa using this
 generalize 0+i*sz=o at hcell;clear U A V key q;generalize f x=vs at hcell
 induction vs generalizing o with
 |nil=>trivial
 |cons y vs ih=>exact⟨by simpa using hcell 0 y rfl,ih (o+1) (λj v u=>by rw[show o+1+j=o+(j+1) by omega];exact hcell (j+1) v (by simpa using u))⟩
theorem gO(W:World)(o:Obj):(W.alloc o).heap[W.heap.size]?=some o:=by
 show(W.heap.push o)[W.heap.size]?=some o;simp
def rN(s:ByteArray):Int:=if h:0<s.size then(s[0]'h).toNat else 0
def cB(s:ByteArray):Bool:=fV s&&pe (rN s) && !words.any (λx=>fR s x)
theorem zI{s:ByteArray}(h:fV s=true):0<s.size∧s.size<=20:=by
 simp only[fV,Bool.and_eq_true,decide_eq_true_eq]at h;omega
def jk(n:Nat):Bool:= !(decide (n<32)||decide (126<n)||n==34||n==92)
def kJ(s:ByteArray):Bool:=s.data.toList.all (λb=>jk b.toNat)
def pg(s:ByteArray):Bool:=decide (s.size=0)
def jQ:Int:=1099511627776
def bo(v:Hk):Bool:=if v.kind==1 then pg v.text&&decide (-jQ<=v.num)&&decide (v.num<=jQ)else
 if v.kind==2 then v.num==0&&decide (v.text.size<=40)&&kJ v.text else false
def bP(k:Int)(s:ByteArray)(n:Nat):Bool:=if k==1 then decide (n=0)&&cB s else
 if k==2||k==3 then decide (1<n)&&pg s else
 if k==4||k==5||k==6 then decide (n=1)&&pg s else false
theorem mX{s:ByteArray}{j:Nat}(h:j<s.size)(q:jk s[j].toNat=false):kJ s=false:=by
 rw[kJ, <- aeR,gu];exactλu=>by rw[u j h]at q;cases q
theorem zb{s:ByteArray}(h:∀j(h:j<s.size),jk s[j].toNat=true):kJ s=true:=by
 rw[kJ,gu (λb=>jk b.toNat)];exact h
theorem tF(n:Nat):(n<32∧jk n=false)∨(32<=n∧126<n∧jk n=false)∨(32<=n∧n<=126∧((n:Int)==34)=true∧jk n=false) ∨
  (32<=n∧n<=126∧((n:Int)==34)=false∧((n:Int)==92)=true∧jk n=false)∨(32<=n∧n<=126∧((n:Int)==34)=false∧((n:Int)==92)=false∧jk n=true):=by
 unfold jk
 by_cases u:n<32
 ·exact .inl ⟨u,by simp[u]⟩
 ·by_cases q:126<n
  ·exact .inr (.inl ⟨zd,q,by simp[q]⟩)
  ·by_cases H:n=34
   ·subst H;exact .inr (.inr (.inl ⟨zd,zd,rfl,rfl⟩))
   ·by_cases A:n=92
    ·subst A;exact .inr (.inr (.inr (.inl ⟨zd,zd,rfl,rfl,rfl⟩)))
    ·exact .inr (.inr (.inr (.inr ⟨zd,zd,ahn,ahn,by simp[u,q,H,A]⟩)))
def wI(s:ByteArray):Prop:=s.size<=140737488355328
theorem wI.len{s:ByteArray}(h:wI s):s.size<=maxLen:=by unfold wI at h;unfold maxLen;omega
mutual
def Ex.ok:Ex->Prop
 | .mk _ s l=>wI s∧q8 l
def q8:IO->Prop
 | []=>True
 |x::xs=>x.ok∧q8 xs
end
theorem uK:∀{l:IO},q8 l ↔ ∀x,x∈l->x.ok
 | []=>by simp[q8]
 |x::xs=>by simp[q8,uK (l:=xs)]
def Hk.ok(v:Hk):Prop:=wI v.text
def zO.ok(o:zO):Prop:=wI o.name∧wI o.key∧o.val.ok
def JF.ok(c:JF):Prop:=c.left.ok∧c.right.ok
def qV.ok(p:qV):Prop:=wI p.bN∧wI p.to∧wI p.label∧wI p.name∧p.expr.ok
def Ll.ok(q:Ll):Prop:=(∀p,p∈q.wJ->p.ok)∧(∀c,c∈q.conds->c.ok)∧(∀o,o∈q.ret->o.ok)
def Ll.small(q:Ll):Prop:=q.wJ.length<=140737488355328∧q.conds.length<=140737488355328∧q.ret.length<=140737488355328
mutual
def aq:Ex->IO
 | .mk k s l=> .mk k s l::b4 l
def b4:IO->IO
 | []=>[]
 |x::xs=>aq x++b4 xs
end
theorem bO:∀l:IO,b4 l=l.flatMap aq
 | []=>rfl
 |x::xs=>by rw[b4,bO xs,List.flatMap_cons]
theorem kD(a b:IO):b4 (a++b)=b4 a++b4 b:=by simp[bO]
theorem uL(l:IO)(k:Nat):(b4 (l.take k)).length<=(b4 l).length:=by
 have:=congrArg List.length (kD (l.take k) (l.drop k))
 rw[List.take_append_drop,List.length_append]at this;omega
theorem rL{l:IO}{k:Nat}(h:k<l.length):b4 (l.take (k+1))=b4 (l.take k)++aq l[k]:=by
 rw[List.take_succ_eq_append_getElem h,kD];simp[b4]
def Ex.part:Ex->Bool| .mk k s l=>bP k s l.length
def aD(x:Ex):Bool:=decide ((aq x).length<=24)&&(aq x).all Ex.part
def Ex.sig:Ex->Int×ByteArray×Nat
 | .mk k s l=>(k,s,l.length)
def wb(s:Int×ByteArray×Nat):Bool:=bP s.1 s.2.1 s.2.2
theorem Qx(x:Ex):x.part=wb x.sig:=by obtain⟨k,s,l⟩:=x;rfl
theorem vS(x:Ex):aD x=(decide (((aq x).map Ex.sig).length<=24)&&((aq x).map Ex.sig).all wb):=by
 rw[aD,List.length_map,List.all_map]
 congr 2
 funext y
 exact Qx y
structure XC where
 kind:Int
 label:ByteArray
 ptr:Option Addr
 len:Nat
 cap:Nat
 hl:label.size<=maxLen
 hn:len<=maxLen
abbrev Pi:=List XC
def XC.val(x:XC):Value:= .agg #[.int .i64 x.kind,.string x.label,.slice x.ptr x.len x.cap]
def XC.sig(x:XC):Int×ByteArray×Nat:=(x.kind,x.label,x.len)
def Hk.none(v:Hk):Bool:=v.kind==0&&v.num==0&&pg v.text
def yY(o:zO):Bool:=if o.kind==1 then cB o.name&&pg o.key&&o.val.none else
 if o.kind==2 then cB o.name&&cB o.key&&o.val.none else
 if o.kind==3 then bo o.val&&pg o.name&&pg o.key else false
def Qy(p:qV):Bool:=cB p.bN&&cB p.to&&if p.path then pg p.label&&pg p.name&&aD p.expr else
 cB p.label&&(pg p.name||cB p.name)&&jb p.expr (.mk 0 ⟨#[]⟩ [])
def Oy(n a b:Int):Bool:=decide (a<=n)&&decide (n<=b)
def OL(c:JF):Bool:=Oy c.op 1 6&&yY c.left&&yY c.right
def RJ(o:zO):Bool:=o.kind !=3&&yY o
def QO(q:Ll):Bool:=Oy q.wJ.length 1 4&&decide (q.conds.length<=6)&&Oy q.ret.length 1 4&&Oy q.range 1 1048576&&Oy q.Rl 1 1048576 &&
 q.wJ.all Qy&&q.conds.all OL&&q.ret.all RJ
mutual
def szE:Ex->Nat->Nat
 | .mk _ _ l,deep=>if 60<deep then 401 else szL l (deep+1) 1
def szL:IO->Nat->Nat->Nat
 | [],_,n=>n
 |x::xs,deep,n=>if n<=400 then szL xs deep (n+szE x deep)else n
end
theorem mg{w:World}{b:Nat}:∀{vs:Id}{o:Nat},ff w b o vs->∀j v,vs[j]?=some v->w.cell? ⟨b,o+j,none⟩=some v
 | [],_,_,j,v,h=>by simp at h
 |x::vs,o,q,j,v,h=>by
  cases j with
  |zero=>simp at h;subst h;simpa using q.1
  |succ j=>
   have:=mg q.2 j v (by simpa using h)
   rw[show o+(j+1)=o+1+j by omega];exact this
theorem xW{w:World}{k:Nat}{C:Array Value}{T:TypeId}{fz:Nat×Nat}(h:w.heap[k]?=some (.cells C T fz))(o:Nat):w.cell? ⟨k,o,none⟩=C[o]? :=by simp[World.cell?,h]
theorem M6{w:World}{xs:B0}{p:Option Addr}{n cap:Nat}(h:rq w xs (.slice p n cap)){k:Nat}(H:k<xs.length) :
  ∃b o,p=some ⟨b,o,none⟩∧w.cell? ⟨b,o+k,none⟩=some (.string xs[k]):=by
 obtain⟨b,o,cs,A,u,q⟩:=jX.at h H;subst u;rw[Nat.mul_one]at q;replace q:=mg q;exact⟨b,o,A,by simpa using q 0 _ rfl⟩
structure Spec where
 p:Value->World->Prop
 st:∀v w w',Below w.heap.size w w'->p v w->p v w'
abbrev WP:=List Spec
def Spec.any:Spec:=⟨λ_ _=>True,λ_ _ _ _ _=>trivial⟩
def at'(L:WP)(i:Nat):Spec:=L.getD i Spec.any
section
variable {P:Program} {ops:Array Oper}
def fm(s:Nat->Bool)(i:Nat):Nat->Bool:=λj=>if j=i then true else s j
def oQ(x:Nat->Value)(i:Nat)(v:Value):Nat->Value:=λj=>if j=i then v else x j
def ig(s:Nat->Bool)(x:Nat->Value):GE->Nat->Act->Act
 | [],_,a=>a
 |o::l,k,a=>ig s x l (k+1) (if s k then a.put o.dst (x k)else a)
theorem dp{s s':Nat->Bool}{x x':Nat->Value}:∀(l:GE)(k:Nat)(a:Act),(∀i,k<=i->i<k+l.length->s i=s' i∧(s i=true->x i=x' i))->ig s x l k a=ig s' x' l k a
 | [],_,_,_=>rfl
 |o::l,k,a,h=>by
  have q:=h k (aed _) zk
  have e:(if s k then a.put o.dst (x k)else a)=(if s' k then a.put o.dst (x' k)else a):=by
   rw[<-q.1]
   cases u:s k
   ·rfl
   ·simp[q.2 u]
  rw[ig,ig,e];exact dp l (k+1) _ (λi H A=>h i zd (by simp only[List.length_cons];omega))
theorem KV{s:Nat->Bool}{x:Nat->Value}{d:Option Tmp}{v:Value}:∀(l:GE)(k:Nat)(a:Act),(∀o∈l,∀e,d=some e->o.dst≠some e)->ig s x l k (a.put d v)=(ig s x l k a).put d v
 | [],_,_,_=>rfl
 |o::l,k,a,h=>by
  have e:(if s k then(a.put d v).put o.dst (x k)else a.put d v)=(if s k then a.put o.dst (x k)else a).put d v:=by
   split
   ·exact Act.put_comm a v (x k) (h o zk)
   ·rfl
  rw[ig,ig,e];exact KV l (k+1) _ (λo' q=>h o' (by simp[q]))
def uq(l:GE):Prop:=∀(i j:Nat)(oi oj:Oper),l[i]?=some oi->l[j]?=some oj->i≠j->∀e,oi.dst=some e->oj.dst≠some e
theorem qJ{s:Nat->Bool}{x:Nat->Value}{v:Value}{o:Oper}:∀(l:GE)(k m:Nat)(a:Act),uq l->l[m]?=some o->s (k+m)=false->ig (fm s (k+m)) (oQ x (k+m) v) l k a=(ig s x l k a).put o.dst v
 | [],_,_,_,_,h,_=>by simp at h
 |o'::l,k,0,a,A,h,q=>by
  obtain rfl:o'=o:=by simpa using h
  rw[ig,ig];simp only[Nat.add_zero]at q⊢
  have e:(if fm s k k then a.put o'.dst (oQ x k v k)else a)=a.put o'.dst v:=by simp[fm,oQ]
  have Y:(if s k then a.put o'.dst (x k)else a)=a:=by simp[q]
  rw[e,Y,dp (s:=fm s k) (x:=oQ x k v) (s':=s) (x':=x) l (k+1) _ (λi W _=>by
   have:i≠k:=zd
   simp[fm,oQ,this])]
  refine KV l (k+1) a (λo'' H e V=>?_);obtain⟨j,u⟩:=List.getElem?_of_mem H;exact A 0 (j+1) o' o'' zk (by simpa using u) zd e V
 |o'::l,k,m+1,a,A,h,q=>by
  have W:k≠k+(m+1):=zd
  rw[ig,ig]
  have e:(if fm s (k+(m+1)) k then a.put o'.dst (oQ x (k+(m+1)) v k)else a)=(if s k then a.put o'.dst (x k)else a):=by simp[fm,oQ]
  rw[e]
  have O:k+(m+1)=k+1+m:=zd
  rw[O]at q⊢;exact qJ l (k+1) m _ (λi j oi oj hi u U=>A (i+1) (j+1) oi oj (by simpa using hi) (by simpa using u) zd) (by simpa using h) q
theorem BD{s keep:Nat->Bool}{x:Nat->Value}{l:GE}{a:Act}{oj:Oper}(V:uq l)(u:∀cs b,oj.op ≠ .select cs b)
  (h:∀i oi,l[i]?=some oi->s i=true->keep i=false->∀d,oi.dst=some d->d∉oj.looksAt ops) :
  execOp (ig s x l 0 a).eval oj=execOp (ig (λi=>s i&&keep i) x l 0 a).eval oj ∧
  Region.wanted oj (yielded ops (ig s x l 0 a).tmps)=Region.wanted oj (yielded ops (ig (λi=>s i&&keep i) x l 0 a).tmps):=by
 have key:∀t,t<=l.length->execOp (ig s x l 0 a).eval oj=execOp (ig (λi=>s i&&(keep i||decide (t<=i))) x l 0 a).eval oj ∧
   Region.wanted oj (yielded ops (ig s x l 0 a).tmps)=Region.wanted oj (yielded ops (ig (λi=>s i&&(keep i||decide (t<=i))) x l 0 a).tmps):=by
  intro t
  induction t with
  |zero=>
   intro _;rw[dp (s:=λi=>s i&&(keep i||decide (0<=i))) (s':=s) (x':=x) l 0 a (λi _ _=>zk)];exact⟨rfl,rfl⟩
  |succ t ih=>
   intro ht;obtain⟨e1,e2⟩:=ih zd;rw[e1,e2];have H:l[t]?=some l[t]:=List.getElem?_eq_getElem zd
   by_cases A:s t=true∧keep t=false
   ·have O:=h t _ H A.1 A.2;have hi:=qJ (s:=λi=>s i&&(keep i||decide (t+1<=i))) (x:=x) (v:=x t) l 0 t a V H (by simp[A.2]);rw[Nat.zero_add]at hi
    have U:ig (fm (λi=>s i&&(keep i||decide (t+1<=i))) t) (oQ x t (x t)) l 0 a=ig (λi=>s i&&(keep i||decide (t<=i))) x l 0 a:=
     dp l 0 a (λi _ _=>by
      by_cases q:i=t
      ·subst q;simp[fm,oQ,A.1]
      ·have:(t+1<=i)=(t<=i):=by apply propext;omega
       simp[fm,oQ,q,this])
    rw[U]at hi;rw[hi];exact⟨execOp_put oj u _ _ _ O,wanted_put oj _ _ _ O⟩
   ·rw[dp (s:=λi=>s i&&(keep i||decide (t<=i))) (s':=λi=>s i&&(keep i||decide (t+1<=i))) (x':=x) l 0 a (λi _ _=>by
     refine⟨?_,λ_=>rfl⟩
     by_cases q:i=t
     ·subst q
      cases Y:s i
      ·simp
      ·cases W:keep i
       ·exact absurd ⟨Y,W⟩ A
       ·simp
     ·have:(t+1<=i)=(t<=i):=by apply propext;omega
      simp[this])]
    exact⟨rfl,rfl⟩
 have:=key l.length (aed _)
 rw[dp (s:=λi=>s i&&(keep i||decide (l.length<=i))) (s':=λi=>s i&&keep i) (x':=x) l 0 a (λi _ h=>by
  have: ¬l.length<=i:=zd
  simp[this])]at this
 exact this
def zS(P:Program)(S:Spec)(w:World):Result Next->Prop
 | .ok (.value u) w'=>S.p u w'∧Below w.heap.size w w'
 | .ok .skip w'=>S.p undef w'∧Below w.heap.size w w'
 | .ok (.enter f args) w'=>Calls P f args w' (λe w''=>∃v,e=.returned v∧S.p v w''∧Below w.heap.size w w'')
 |_=>False
def vL(P:Program)(ops:Array Oper)(S:Spec)(o:Oper)(a:Act)(w:World):Prop:=
 (Region.wanted o (yielded ops a.tmps)=true∧zS P S w ((execOp a.eval o).run P w))∨(Region.wanted o (yielded ops a.tmps)=false∧S.p undef w)
def bd(ops:Array Oper)(j i:Nat):Bool:=match ops[j]? with|some o=>o.after.any (λe=>Region.binds .any e&&e.on==i)|none=>false
def Zp(ops:Array Oper)(i j:Nat):Bool:=
 match ops[i]?,ops[j]? with
 |some oi,some oj=>(bd ops j i||oi.apart ops oj) && !bd ops i j&&(match oi.dst with|some d=>oj.dst !=some d|none=>true)&&(match oj.dst with|some d=> !(oi.looksAt ops).contains d|none=>true)
 |_,_=>true
def L5(ops:Array Oper)(j:Nat):Bool:=match ops[j]? with|some o=>o.after.all (λe=>decide (e.on<ops.size))|none=>true
def ad5(ops:Array Oper):Bool:=
 Region.noSelect ops&&(List.range ops.size).all (λj=>(List.range j).all (λi=>Zp ops i j)&&(!bd ops j j&&L5 ops j)&&(decide (j+1=ops.size)||(List.range ops.size).any (λi=>decide (j<i)&&bd ops i j)))
theorem Wg{a b c:World}(u:Below a.heap.size a b)(q:Below b.heap.size b c):Below a.heap.size a c:=cV u q
theorem wpAny_done{Q:Exit->Act->World->Prop}{listed:Array Bool}{a:Act}{w:World}(h:Region.ready .any ops listed=[])(q:Q .normal a w):∀fuel,wpAny P .any ops Q fuel listed a w
 |0=>⟨h,q⟩
 |_+1=>⟨λ_=>q,λi hi=>by rw[h]at hi;cases hi⟩
def G2(s:Nat->Bool):Nat->Nat
 |0=>0
 |k+1=>G2 s k+(if s k then 0 else 1)
theorem qM{s s':Nat->Bool}:∀k,(∀i,i<k->s i=s' i)->G2 s k=G2 s' k
 |0,_=>rfl
 |k+1,h=>by rw[G2,G2,qM k (λi hi=>h i zd),h k zd]
theorem xq{s:Nat->Bool}{i:Nat}:∀k,i<k->s i=false->G2 (fm s i) k+1=G2 s k
 |0,h,_=>zd
 |k+1,h,u=>by
  rw[G2,G2]
  by_cases q:i=k
  ·subst q;rw[qM (s:=fm s i) (s':=s) i (λj H=>by have:j≠i:=zd;simp[fm,this])];simp[fm,u]
  ·have:=xq (s:=s) (i:=i) k zd u
   have A:fm s i k=s k:=by simp[fm,Ne.symm q]
   rw[A];omega
theorem K4{s:Nat->Bool}{i:Nat}:∀k,i<k->s i=false->1<=G2 s k:=λk h q=>by
 have:=xq (s:=s) k h q;omega
theorem Jv{s:Nat->Bool}:∀k,G2 s k<=k
 |0=>aed _
 |k+1=>by have:=Jv (s:=s) k;rw[G2];split<;>omega
end
def WF(r:Option Nat):Fence:={Fence.wide with round:=r}
theorem mw(r:Option Nat)(n:Nat):(WF r).room n:=λd h=>by cases h
section
variable {P:Program} {r:Option Nat} {n:Nat} {ops:Array Oper} {Q:Exit->Act->World->Prop} {a:Act} {w:World}
theorem R8{c:Code}{m:Nat}(h:c.wpIn (WF r) n P Q a w):c.wpIn (WF r) m P Q a w:=λb k cs u q _=>h b k cs u q (mw _ _)
theorem Nh{m:Nat}{l:Nat}{f:FuncId}{tmps:Array Value}{assign body:Code}{R:Ending->World->Prop}{q:Option Nat}(h:RoundIn (WF r) n P l f tmps assign body w R):RoundIn (WF q) m P l f tmps assign body w R:=⟨trivial,λc cs _=>h.2 c cs (mw _ _)⟩
theorem nN{f:FuncId}{args:Array Value}{R:Ending->World->Prop}(h:Calls P f args w R):CallsIn (WF r) n P f args w R:=(callsIn_wide (n:=n)).2 h
theorem xV{f:FuncId}{args:Array Value}{R:Ending->World->Prop}(h:CallsIn (WF none) n P f args w R):Calls P f args w R:=(callsIn_wide (n:=n)).1 h
def dO(ops:Array Oper):Bool:=ops.all (λo=>match o.op with| .defer _=>false|_=>true)
theorem pF{i:Nat}{o:Oper}(h:dO ops=true)(q:ops[i]?=some o)(rho:Operand->Value):o.semAt r rho=execOp rho o:=by
 grind[Oper.semAt_eq,dO,Array.all_eq_true_iff_forall_mem,Array.mem_of_getElem?]
theorem Bz{row:String}{args:Array Value}{R:Value->World->Prop}(h:Rows P row args w R):RowsIn (WF r) n P row args w R:=λc cs _=>by
 obtain⟨v,w',u,q⟩:=h c cs;exact⟨v,w',u,stepsIn_wide.2 q⟩
theorem gq(q:dO ops=true)(u:∀a w, ¬Q .outgrown a w):∀(l:Do)(a:Act)(w:World),wpOps P ops Q l a w->wpOpsIn (WF r) n P ops Q l a w
 | [],a,w,h=>h
 |i::rest,a,w,h=>by
  simp only[wpOps]at h;simp only[wpOpsIn]
  cases H:ops[i]? with
  |none=>
   rw[H]at h;exact gq q u rest a w h
  |some o=>
   rw[H]at h;simp only at h⊢
   split
   ·rename_i hw;rw[if_pos hw]at h
    rcases h with h|⟨_,O,w',h⟩
    ·refine⟨λf _=>trivial,?_⟩;rw[pF q H];unfold Oper.wp at h;generalize(execOp a.eval o).run P w=res at h;unfold Oper.upon at h;unfold Oper.uponIn
     split at h
     ·exact gq q u rest _ _ h
     ·exact gq q u rest _ _ h
     ·exact gq q u rest _ _ h
     ·refine⟨λe=>(by cases e),nN (h.mono λe w' A=>?_)⟩
      cases e with
      |returned v=>exact gq q u rest _ _ A
      |panicked ch=>exact A
      |outgrown=>exact A
     ·exact⟨λe=>(by cases e),Bz (h.mono λv w' A=>gq q u rest _ _ A)⟩
     ·exact h
     grind
    grind
   ·rename_i hw;rw[if_neg hw]at h;exact⟨λf _=>trivial,gq q u rest _ _ h⟩
theorem uk{id:Nat}(q:P.follows .mixedOrders=true)(u:dO ops=true)(A:∀a w, ¬Q .outgrown a w)(h:wpAny P .any ops Q ops.size (Array.replicate ops.size false) a w.drew):(Code.region id ops true).wpIn (WF r) n P Q a w:=
 wpIn_region_draw λt=>by
  simp only[Region.schedule,q,Bool.true_or,if_true];exact gq u A _ _ _ (wpAny_sound ops.size t _ a _ h)
theorem Ah{c:Code}(I:Nat->Act->World->Prop){m:Nat}(h0:I m a w)(round:∀m a w,I m a w->c.wpIn (WF r) n P (Exit.then (λU w'=>∃V,I V U w'∧V<m) Q) a w):(Code.loop c).wpIn (WF r) n P Q a w:=by
 have key:∀j a w,I j a w->∀b k cs,b.roundOf=(WF r).round->∃e U w',Q e U w'∧ArrivesIn (Machine.fenced P (WF r)) P (lone (b.atR a (.code c :: .inLoop c::k)) cs w) b k cs e U w':=by
  intro j
  induction j using Nat.strongRecOn with
  |_ j ih=>
   intro a w hI b k cs u;obtain⟨e,O,H,A,q⟩:=round j a w hI b (.inLoop c::k) cs u trivial (mw _ _)
   cases e with
   |normal=>
    obtain⟨V,h1,h2⟩:=A;obtain⟨e2,a2,W,Y,arr2⟩:=ih V h2 O H h1 b k cs u;exact⟨e2,a2,W,Y,.of_steps (StepsIn.trans q (.one (fenced_calm (F:=WF r) (n:=n) trivial (mw _ _) rfl) stepR_inLoop)) arr2⟩
   |exit id=>exact⟨_,O,H,A,.pass (x:= .inLoop c) rfl (λ_ _=> .inl zk) q⟩
   |goto l=>exact⟨_,O,H,A,.pass (x:= .inLoop c) rfl (λ_ _=> .inl zk) q⟩
   |ret=>exact⟨_,O,H,A,.pass (x:= .inLoop c) rfl (λ_ _=> .inl zk) q⟩
   |panic ch=>exact⟨_,O,H,A,.pass (x:= .inLoop c) rfl (λ_ _=> .inl zk) q⟩
   |outgrown=>exact⟨_,O,H,A,.pass (x:= .inLoop c) rfl (λ_ _=> .inl zk) q⟩
 intro b k cs u _ _;obtain⟨e,U,w',A,q⟩:=key m a w h0 b k cs u;exact⟨e,U,w',A,.of_steps (.one (fenced_calm (F:=WF r) (n:=n) trivial (mw _ _) rfl) stepR_loop) q⟩
theorem DT{b:Frame}{k:List Item}{cs:List Frame}{c:Code}:step P (lone (b.atR a (.code (.scope c)::k)) cs w)=.next (lone (b.atR a (.code c :: .inScope c::k)) cs w):=
 step_lone_go (by simp[stepG,stepG.exec,Frame.atR])
theorem zD{b:Frame}{k:List Item}{cs:List Frame}{c:Code}:step P (lone (b.atR a (.inScope c::k)) cs w)=.next (lone (b.atR a k) cs w):=
 step_lone_go (by simp[stepG,stepG.exec,Frame.atR])
theorem JB{c:Code}(h:c.wpIn (WF r) n P (Exit.noGoto Q) a w):(Code.scope c).wpIn (WF r) n P Q a w:=by
 intro b k cs U _ _;obtain⟨e,O,A,u,q⟩:=h b (.inScope c::k) cs U trivial (mw _ _);have s1:StepsIn (Machine.fenced P (WF r)) P (lone (b.atR a (.code (.scope c)::k)) cs w) (lone (b.atR a (.code c :: .inScope c::k)) cs w):= .one (fenced_calm (F:=WF r) (n:=n) trivial (mw _ _) rfl) DT
 cases e with
 |normal=>exact⟨.normal,O,A,u,s1.trans (StepsIn.trans q (.one (fenced_calm (F:=WF r) (n:=n) trivial (mw _ _) rfl) zD))⟩
 |exit id=>
  refine⟨.exit id,O,A,u,λW hk=>s1.trans (q.1 W (by grind[exitTo])),λH Y=>?_⟩;obtain⟨V,h1,h2⟩:=q.2 H (by grind[exitTo]);exact⟨V,h1,s1.trans h2⟩
 |goto l=>exact u.elim
 |ret=>exact⟨_,O,A,u,.of_steps s1 q⟩
 |panic ch=>exact⟨_,O,A,u,.of_steps s1 q⟩
 |outgrown=>exact⟨_,O,A,u,.of_steps s1 q⟩
end
end
end Go.Proofs.YtlhhccmopfamhaaGreatDoor
