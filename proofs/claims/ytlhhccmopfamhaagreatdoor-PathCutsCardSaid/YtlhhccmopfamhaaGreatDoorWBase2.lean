/- texts of one claim, one behind the other. -/
import Derived.MapKept
import Derived.Laws.StructEq
import Derived.Test.YtlhhccmopfamhaaGreatDoorWAbs
import Derived.Attr
import Derived.WalkKit
import Derived.WalkSpells
import Derived.WalkLawsBesides
import Derived.Lib.Hide
set_option linter.unusedSimpArgs false
set_option linter.unusedVariables false
set_option maxRecDepth 100000
set_option maxHeartbeats 16000000
open List renaming length_eq_one_iff -> TP, drop_eq_nil_of_le -> TQ, headD_cons -> TR, getElem?_eq_some_iff -> S7, getElem?_set_self -> Tw, getElem?_set_ne -> Tv, getElem?_append_left -> S8, getElem?_append_right -> TD, mem_of_getElem? -> TI
open Option.some renaming injEq -> Ti
open Array renaming getElem?_push_lt -> TU, getElem?_eq_getElem -> Tm, getElem?_push_size -> TV, getElem?_push -> TW, getElem?_eq_some_iff -> S5
open Bool renaming true_eq -> TT
open Nat renaming lt_or_ge -> S9
open Option renaming map_eq_some_iff -> TS
open Prod.mk renaming injEq -> Tj
namespace Go.Proofs.YtlhhccmopfamhaaGreatDoor
open Go.RowKit
section
open Go.RowKit Go.MapKept
section
variable {D:Nat->Prop} {nu:Nat->Nat->Value} {o:List (Option aa)} {w:World} {P:Program}
inductive FK where
 | b|i|s
def kv:FK->Value->Value->Option Bool
 | .b, .bool x, .bool y=>some (x==y)
 | .i, .int k x, .int k' y=>if k=k' then some (x==y) else none
 | .s, .string x, .string y=>some (x.toList==y.toList)
 | _,_,_=>none
def mJ:List FK->List Value->List Value->Option Bool
 | [],[],[]=>some true
 | k :: ks,x :: xs,y :: ys=>match kv k x y,mJ ks xs ys with
  | some a,some b=>some (a&&b)
  | _,_=>none
 | _,_,_=>none
def DF (P:Program) (g:TypeId->Option (List FK)):List Field->Nat->Option (List FK)
 | [],_=>some []
 | f :: fs,off=>if f.name = "_" then none else match g f.type with
  | some ks=>if f.offset=off∧aY P f.type=some ks.length then match DF P g fs (off+ks.length) with
   | some r=>some (ks++r)
   | none=>none
   else none
  | none=>none
def DT (P:Program):Nat->TypeId->Option (List FK)
 | 0,_=>none
 | d+1,T=>match P.underlying T with
  | some .bool=>some [.b]
  | some (.int _)=>some [.i]
  | some .string=>some [.s]
  | some (.struct fs)=>if P.stoodInHeld T then none else DF P (DT P d) fs.toList 0
  | _=>none
def valOf (P:Program) (T:TypeId) (xs:List Value):Value:=match P.underlying T with
 | some (.struct _)=> .agg xs.toArray
 | _=>xs.headD Go.undef
theorem pA: ∀ {ks:List FK} {xs ys:List Value} {r:Bool},mJ ks xs ys=some r->xs.length=ks.length∧ys.length=ks.length
 | [],[],[],_,_=>⟨rfl,rfl⟩
 | [],[],_ :: _,_,h=>by simp [mJ] at h
 | [],_ :: _,_,_,h=>by simp [mJ] at h
 | _ :: _,[],_,_,h=>by simp [mJ] at h
 | _ :: _,_ :: _,[],_,h=>by simp [mJ] at h
 | k :: ks,x :: xs,y :: ys,r,h=>by
  simp only [mJ] at h
  split at h
  ·rename_i a b e1 e2;obtain ⟨h1,h2⟩:=pA e2;simp [h1,h2]
  ·cases h
theorem sM: ∀ {ks ks':List FK} {xs ys:List Value} {r:Bool},mJ (ks++ks') xs ys=some r-> ∃a b,mJ ks (xs.take ks.length) (ys.take ks.length)=some a∧mJ ks' (xs.drop ks.length) (ys.drop ks.length)=some b∧r=(a&&b)
 | [],ks',xs,ys,r,h=>⟨true,r,by simp [mJ],by simpa using h,by simp⟩
 | k :: ks,ks',[],_,_,h=>by simp [mJ] at h
 | k :: ks,ks',_ :: _,[],_,h=>by simp [mJ] at h
 | k :: ks,ks',x :: xs,y :: ys,r,h=>by
  simp only [List.cons_append,mJ] at h
  split at h
  ·rename_i a b e1 e2;cases h;obtain ⟨c,d,h1,h2,h3⟩:=sM e2;refine ⟨a&&c,d, ?_,by simpa using h2,by rw [h3,Bool.and_assoc]⟩;simp [mJ,e1,h1]
  ·cases h
theorem re {d:Nat} {T:TypeId} {ks:List FK} (h:DT P d T=some ks) (hs:aY P T=some ks.length) {xs:List Value} {off:Nat} (hl:off+ks.length<=xs.length) :
  (part T xs.toArray off).run P w = .ok (valOf P T ((xs.drop off).take ks.length)) w:=by
 cases d with
 | zero=>simp [DT] at h
 | succ d=>
  simp only [DT] at h
  have one: ∀dd,P.underlying T=some dd->cp P T=some false->ks.length=1->valOf P T ((xs.drop off).take ks.length)=((xs.drop off).take ks.length).headD Go.undef->(part T xs.toArray off).run P w = .ok (valOf P T ((xs.drop off).take ks.length)) w:=by
   intro dd hu ha h1 hv;rw [hv,h1]
   have hlt:off<xs.length:=by omega
   have hx:xs.toArray[off]? = some xs[off]:=by simp [hlt]
   have e:((xs.drop off).take 1).headD Go.undef=xs[off]:=by rw [List.drop_eq_getElem_cons hlt];rfl
   rw [e];simp [part,ew ha,hlt]
  split at h
  ·rename_i hu;cases h;exact one _ hu (by simp [cp,hu]) rfl (by simp [valOf,hu])
  ·rename_i hu;cases h;exact one _ hu (by simp [cp,hu]) rfl (by simp [valOf,hu])
  ·rename_i hu;cases h;exact one _ hu (by simp [cp,hu]) rfl (by simp [valOf,hu])
  ·rename_i fs hu
   have ha:cp P T=some true:=by simp [cp,hu]
   simp only [valOf,hu];simp only [part,Sem.run_bind,ew ha,Result.andThen_ok,if_true,run_sizeOf hs,Sem.run_pure]
   congr 2
   apply Array.ext'
   simp [List.take_drop]
  ·cases h
theorem uz {k:FK} {xs ys:List Value} {r:Bool} (h:mJ [k] xs ys=some r): ∃x y,xs=[x]∧ys=[y]∧kv k x y=some r:=by
 obtain ⟨l1,l2⟩:=pA h;obtain ⟨x,rfl⟩:=TP.1 l1;obtain ⟨y,rfl⟩:=TP.1 l2;refine ⟨x,y,rfl,rfl, ?_⟩;simp only [mJ] at h
 split at h
 ·rename_i a b e1 e2;cases e2;cases h;rw [e1,Bool.and_true]
 ·cases h
theorem M9 {x y:Value} {r:Bool} (h:kv .b x y=some r): ∃a b,x = .bool a∧y = .bool b∧r=(a==b):=by
 cases x<;>cases y<;>simp [kv] at h;exact ⟨_,_,rfl,rfl,h.symm⟩
theorem Nb {x y:Value} {r:Bool} (h:kv .s x y=some r): ∃a b,x = .string a∧y = .string b∧r=(a.toList==b.toList):=by
 cases x<;>cases y<;>simp [kv] at h;exact ⟨_,_,rfl,rfl,by simpa using h.symm⟩
theorem Na {x y:Value} {r:Bool} (h:kv .i x y=some r): ∃k a b,x = .int k a∧y = .int k b∧r=(a==b):=by
 cases x<;>cases y<;>simp [kv] at h;obtain ⟨rfl,h⟩:=h;exact ⟨_,_,_,rfl,rfl,h.symm⟩
def D8 (P:Program) (d:Nat):Prop:= ∀(T:TypeId) (ks:List FK),DT P d T=some ks-> ∀(d':Nat),d<=d'-> ∀(xs ys:List Value) (r:Bool) (w:World),mJ ks xs ys=some r->(Op.equalIn d' T (valOf P T xs) (valOf P T ys)).run P w = .ok r w
theorem tN {d:Nat} (ih:D8 P d): ∀(fs:List Field) (off:Nat) (ks:List FK),DF P (DT P d) fs off=some ks-> ∀(d':Nat),d<=d'-> ∀(xs ys:List Value) (r:Bool) (w:World),mJ ks (xs.drop off) (ys.drop off)=some r ->
  off+ks.length=xs.length->off+ks.length=ys.length->(Op.eqFields d' xs.toArray ys.toArray fs).run P w = .ok r w
 | [],off,ks,h,d',hd,xs,ys,r,w,he,hx,hy=>by
  simp only [DF,Ti] at h;subst h;have e1:xs.drop off=[]:=TQ (by simp at hx;omega);have e2:ys.drop off=[]:=TQ (by simp at hy;omega);rw [e1,e2] at he;simp only [mJ,Ti] at he;subst he;simp [Op.eqFields]
 | f :: fs,off,ks,h,d',hd,xs,ys,r,w,he,hx,hy=>by
  simp only [DF] at h
  split at h
  ·cases h
  ·rename_i hname
   split at h
   ·rename_i k1 e1
    split at h
    ·rename_i hc
     split at h
     ·rename_i k2 e2;cases h;obtain ⟨rfl,hsz⟩:=hc;obtain ⟨a,b,h1,h2,h3⟩:=sM he;rw [List.drop_drop,List.drop_drop] at h2;have hrest:=tN ih fs (f.offset+k1.length) k2 e2 d' hd xs ys b w (by simpa [Nat.add_comm] using h2) (by simp at hx;omega) (by simp at hy;omega);have hhead:=ih f.type k1 e1 d' hd _ _ a w h1
      have hl1:f.offset+k1.length<=xs.length:=by simp at hx;omega
      have hl2:f.offset+k1.length<=ys.length:=by simp at hy;omega
      simp only [Op.eqFields,ne_eq,hname,not_false_eq_true,if_true,Sem.run_bind,re e1 hsz hl1,re e1 hsz hl2,Result.andThen_ok,hhead];subst h3
      cases a
      ·simp
      ·simpa using hrest
     ·cases h
    ·cases h
   ·cases h
theorem xZ: ∀(d:Nat),D8 P d
 | 0=>fun T ks h=>by simp [DT] at h
 | d+1=>fun T ks h d' hd xs ys r w he=>by
  obtain ⟨d',rfl⟩: ∃m,d'=m+1:=⟨d' - 1,by omega⟩;simp only [DT] at h
  split at h
  ·rename_i hu;cases h;obtain ⟨x,y,rfl,rfl,hk⟩:=uz he;obtain ⟨a,b,rfl,rfl,rfl⟩:=M9 hk;simp only [valOf,hu,TR];exact run_equalIn_bool' w d' T a b hu
  ·rename_i k hu;cases h;obtain ⟨x,y,rfl,rfl,hk⟩:=uz he;obtain ⟨k1,a,b,rfl,rfl,rfl⟩:=Na hk;simp only [valOf,hu,TR];exact run_equalIn_int w d' T k1 k a b hu
  ·rename_i hu;cases h;obtain ⟨x,y,rfl,rfl,hk⟩:=uz he;obtain ⟨a,b,rfl,rfl,rfl⟩:=Nb hk;simp only [valOf,hu,TR];exact run_equalIn_string w d' T a b hu
  ·rename_i fs hu
   split at h
   ·cases h
   ·rename_i hs
    have hfo:P.fieldsOf T=fs:=by simp [Program.fieldsOf,hu]
    simp only [valOf,hu];rw [run_equalIn_struct w d' T _ _ (by rw [hfo];exact hu) (by simpa using hs),hfo];obtain ⟨l1,l2⟩:=pA he;exact tN (xZ d) fs.toList 0 ks h d' (by omega) xs ys r w (by simpa using he) (by omega) (by omega)
  ·cases h
def gS (P:Program) (T:TypeId):Option (List FK):=if P.eqGuardType P.depth T then none else match P.underlying T with
 | some (.struct _)=>DT P 12 T
 | _=>none
def fX:List FK->List AV->List AV->Option Bool
 | [],[],[]=>some true
 | k :: ks, .v x :: xs, .v y :: ys=>match kv k x y,fX ks xs ys with
  | some a,some b=>some (a&&b)
  | _,_=>none
 | _,_,_=>none
theorem kN: ∀ {ks:List FK} {cs ds:List AV} {r:Bool},fX ks cs ds=some r-> ∃xs ys,cs=xs.map AV.v∧ds=ys.map AV.v∧mJ ks xs ys=some r
 | [],[],[],_,h=>⟨[],[],rfl,rfl,by simpa [fX,mJ] using h⟩
 | [],[],_ :: _,_,h=>by simp [fX] at h
 | [],_ :: _,_,_,h=>by simp [fX] at h
 | k :: ks,cs,ds,r,h=>by
  unfold fX at h
  split at h
  ·exact absurd ‹k :: ks=[]› (by simp)
  ·rename_i k' ks' x xs y ys e;cases e
   split at h
   ·rename_i a b e1 e2;obtain ⟨xs',ys',rfl,rfl,h3⟩:=kN e2;refine ⟨x :: xs',y :: ys',rfl,rfl, ?_⟩;simp only [mJ,e1,h3];exact h
   ·cases h
  ·cases h
theorem RA.Kg {a:AV} {x y:Value} (h:RA D nu o w a y) (e:a = .v x):y=x:=by subst e;cases h;rfl
theorem RA.bZ {x y:Value} (h:RA D nu o w (.v x) y):y=x:=by cases h;rfl
theorem gG {xs:List Value} {x:Value} (h:RA D nu o w (.agg (xs.map AV.v)) x):x = .agg xs.toArray:=by
 cases h with
 | agg _ ys h1 h2 h3=>
  congr 1
  apply Array.ext
  ·simpa using h1.symm
  ·intro i q1 q2
   have e1:(xs.map AV.v)[i]? = some (.v xs[i]):=by simp at q2;simp [q2]
   have:=(h2 i _ _ e1 (Array.getElem?_eq_getElem q1)).bZ
   simp [this]
theorem jY {T:TypeId} {cs ds:List AV} {x y:Value} {ks:List FK} {rr:Bool} (h1:gS P T=some ks) (h2:fX ks cs ds=some rr) (hx:RA D nu o w (.agg cs) x) (hy:RA D nu o w (.agg ds) y): ∃xs ys,x = .agg xs∧y = .agg ys∧P.eqGuardType P.depth T=false∧(Op.equalIn 10000 T (.agg xs) (.agg ys)).run P w = .ok rr w:=by
 unfold gS at h1
 split at h1
 ·cases h1
 ·rename_i hg
  split at h1
  ·rename_i fs hu;obtain ⟨xs,ys,rfl,rfl,h3⟩:=kN h2;refine ⟨_,_,gG hx,gG hy,by simpa using hg, ?_⟩
   have:=xZ (P:=P) 12 T ks h1 10000 (by omega) xs ys rr w h3
   simpa only [valOf,hu] using this
  ·cases h1
end
end
section
open Go.RowKit Go.MapKept
def cm:TypeDesc->Value->Bool
 | .int k, .int k' _=>decide (k=k')
 | .string, .string _=>true
 | .bool, .bool _=>true
 | _,_=>false
theorem dw {d:TypeDesc} {k:Value} (h:cm d k=true):IsKey d k:=by
 cases d<;>cases k<;>simp_all [cm,IsKey]
theorem mA {s t:ByteArray} (h:s.toList=t.toList):s=t:=by
 rw [ByteArray.toList_eq,ByteArray.toList_eq] at h;obtain ⟨⟨a⟩⟩:=s;obtain ⟨⟨b⟩⟩:=t;simp at h;rw [h]
def cU:Value->Value->Bool
 | .int _ a, .int _ b=>a==b
 | .string a, .string b=>a.toList==b.toList
 | .bool a, .bool b=>a==b
 | _,_=>false
theorem qJ {d:TypeDesc} {a b:Value} (ha:cm d a=true) (hb:cm d b=true):Instr.sameNow d a b=some (cU a b)∧(cU a b=true->b=a):=by
 cases d<;>cases a<;>simp only [cm,Bool.false_eq_true,decide_eq_true_eq] at ha<;>cases b<;>simp only [cm,Bool.false_eq_true,decide_eq_true_eq] at hb
 ·simp only [Instr.sameNow,cU,true_and,beq_iff_eq];exact fun h=>by rw [h]
 ·subst ha;subst hb;simp only [Instr.sameNow,cU,if_true,true_and,beq_iff_eq];exact fun h=>by rw [h]
 ·rename_i x y
  have e:(x==y)=(x.toList==y.toList):=by
   rw [Bool.eq_iff_iff,bytes_beq,beq_iff_eq];exact ⟨fun h=>by rw [h],fun h=>mA h⟩
  simp only [Instr.sameNow,cU,e,true_and,beq_iff_eq,Value.string.injEq];exact fun h=>(mA h).symm
theorem RA.plain {D:Nat->Prop} {nu:Nat->Nat->Value} {o:List (Option aa)} {w:World} {x y:Value} (h:RA D nu o w (.v x) y):y=x:=by cases h;rfl
def jQ (d:TypeDesc) (k:Value):List (List AV)->Option (Option AV)
 | []=>some none
 | [.v k',x] :: l=>if cm d k' then if cU k k' then some (some x) else jQ d k l else none
 | _=>none
def jf (d:TypeDesc) (k:Value) (x:AV):List (List AV)->Option (List (List AV))
 | []=>some [[.v k,x]]
 | [.v k',y] :: l=>if cm d k' then if cU k k' then some ([.v k,x] :: l) else (jf d k x l).map ([.v k',y] :: ·) else none
 | _=>none
section
variable {D:Nat->Prop} {nu:Nat->Nat->Value} {o:List (Option aa)} {w:World} {P:Program}
theorem nB {d:TypeDesc} {k:Value} (hk:cm d k=true): ∀(rows:List (List AV)) (es:List MapEntry) (i:Nat) (r:Option AV),es.length=rows.length->(∀(j:Nat) row c e,rows[j]? = some row->row[0]? = some c->es[j]? = some e->RA D nu o w c e.key)->jQ d k rows=some r ->
  (r=none∧Instr.findNow d k es i=some none)∨ ∃j c e row,r=some c∧Instr.findNow d k es i=some (some (i+j,e.val))∧rows[j]? = some row∧row[1]? = some c∧es[j]? = some e
 | [],[],i,r,_,_,h=>by
  simp only [jQ,Ti] at h;exact .inl ⟨h.symm,rfl⟩
 | [],_ :: _,i,r,hl,_,_=>by simp at hl
 | _ :: _,[],i,r,hl,_,_=>by simp at hl
 | row :: l,e :: es,i,r,hl,hr,h=>by
  unfold jQ at h
  split at h
  ·cases ‹row :: l=[]›
  ·rename_i k' x l' e1;cases e1
   split at h
   ·rename_i hk';have hkey:e.key=k':=(hr 0 _ (.v k') e rfl rfl rfl).plain;obtain ⟨h1,h2⟩:=qJ hk hk'
    split at h
    ·rename_i he;cases h;refine .inr ⟨0,x,e,_,rfl, ?_,rfl,rfl,rfl⟩;simp [Instr.findNow,hkey,h1,he]
    ·rename_i he
     have he':cU k k'=false:=by simpa using he
     rcases nB hk l es (i+1) r (by simpa using hl) (fun j row c e q1 q2 q3=>hr (j+1) row c e (by simpa using q1) q2 (by simpa using q3)) h with ⟨q1,q2⟩|⟨j,c,e2,row2,q1,q2,q3,q4,q5⟩
     ·exact .inl ⟨q1,by simp [Instr.findNow,hkey,h1,he',q2]⟩
     ·exact .inr ⟨j+1,c,e2,row2,q1,by simp [Instr.findNow,hkey,h1,he',q2];omega,by simpa using q3,q4,by simpa using q5⟩
   ·cases h
  ·cases h
theorem sy {d:TypeDesc} {k:Value} {x:AV} (hk:cm d k=true): ∀(rows:List (List AV)) (es:List MapEntry) (i:Nat) (rows':List (List AV)),es.length=rows.length->(∀(j:Nat) row c e,rows[j]? = some row->row[0]? = some c->es[j]? = some e->RA D nu o w c e.key)->jf d k x rows=some rows' ->
  (rows'=rows++[[.v k,x]]∧Instr.findNow d k es i=some none)∨ ∃j e,rows'=rows.set j [.v k,x]∧Instr.findNow d k es i=some (some (i+j,e.val))∧es[j]? = some e∧e.key=k
 | [],[],i,r,_,_,h=>by
  simp only [jf,Ti] at h;exact .inl ⟨h.symm,rfl⟩
 | [],_ :: _,i,r,hl,_,_=>by simp at hl
 | _ :: _,[],i,r,hl,_,_=>by simp at hl
 | row :: l,e :: es,i,r,hl,hr,h=>by
  unfold jf at h
  split at h
  ·cases ‹row :: l=[]›
  ·rename_i k' y l' e1;cases e1
   split at h
   ·rename_i hk';have hkey:e.key=k':=(hr 0 _ (.v k') e rfl rfl rfl).plain;obtain ⟨h1,h2⟩:=qJ hk hk'
    split at h
    ·rename_i he;cases h;refine .inr ⟨0,e,rfl, ?_,rfl,by rw [hkey];exact h2 he⟩;simp [Instr.findNow,hkey,h1,he]
    ·rename_i he
     have he':cU k k'=false:=by simpa using he
     obtain ⟨r2,hr2,rfl⟩:=TS.1 h
     rcases sy hk l es (i+1) r2 (by simpa using hl) (fun j row c e q1 q2 q3=>hr (j+1) row c e (by simpa using q1) q2 (by simpa using q3)) hr2 with ⟨q1,q2⟩|⟨j,e2,q1,q2,q3,q4⟩
     ·exact .inl ⟨by rw [q1];rfl,by simp [Instr.findNow,hkey,h1,he',q2]⟩
     ·exact .inr ⟨j+1,e2,by rw [q1];rfl,by simp [Instr.findNow,hkey,h1,he',q2];omega,by simpa using q3,q4⟩
   ·cases h
  ·cases h
def fK (ks:List FK) (k:List AV):List (List AV)->Option (Option AV)
 | []=>some none
 | [.agg k',x] :: l=>match fX ks k k' with
  | some true=>some (some x)
  | some false=>fK ks k l
  | none=>none
 | _=>none
def gW (ks:List FK) (k:List AV) (x:AV):List (List AV)->Option (List (List AV))
 | []=>some [[.agg k,x]]
 | [.agg k',y] :: l=>match fX ks k k' with
  | some true=>some ([.agg k,x] :: l)
  | some false=>(gW ks k x l).map ([.agg k',y] :: ·)
  | none=>none
 | _=>none
theorem wQ: ∀ {ks:List FK} {xs ys:List Value},mJ ks xs ys=some true->xs=ys∧ ∀x∈xs, ∀n,Instr.sameBits n x x=true
 | [],[],[],_=>⟨rfl,fun x h=>by cases h⟩
 | [],[],_ :: _,h=>by simp [mJ] at h
 | [],_ :: _,_,h=>by simp [mJ] at h
 | _ :: _,[],_,h=>by simp [mJ] at h
 | _ :: _,_ :: _,[],h=>by simp [mJ] at h
 | k :: ks,x :: xs,y :: ys,h=>by
  simp only [mJ] at h
  split at h
  ·rename_i a b e1 e2;simp only [Ti,Bool.and_eq_true] at h;obtain ⟨rfl,rfl⟩:=h;obtain ⟨rfl,h2⟩:=wQ e2
   have hx:x=y∧ ∀n,Instr.sameBits n x x=true:=by
    cases k
    ·obtain ⟨a,b,rfl,rfl,h⟩:=M9 e1;simp only [TT,beq_iff_eq] at h;subst h;exact ⟨rfl,fun n=>by cases n<;>simp [Instr.sameBits]⟩
    ·obtain ⟨k,a,b,rfl,rfl,h⟩:=Na e1;simp only [TT,beq_iff_eq] at h;subst h;exact ⟨rfl,fun n=>by cases n<;>simp [Instr.sameBits]⟩
    ·obtain ⟨a,b,rfl,rfl,h⟩:=Nb e1;simp only [TT,beq_iff_eq] at h;obtain rfl:=mA h;exact ⟨rfl,fun n=>by cases n<;>simp [Instr.sameBits,bytes_beq]⟩
   refine ⟨by rw [hx.1],fun z hz=> ?_⟩
   rcases List.mem_cons.1 hz with rfl|hz
   ·exact hx.2
   ·exact h2 z hz
  ·cases h
theorem yt {n:Nat}: ∀ {l:List Value},(∀x∈l,Instr.sameBits n x x=true)->(l.zip l).all (fun p=>Instr.sameBits n p.1 p.2)=true
 | [],_=>rfl
 | x :: l,h=>by
  simp only [List.zip_cons_cons,List.all_cons,Bool.and_eq_true];exact ⟨h x List.mem_cons_self,yt fun y hy=>h y (List.mem_cons_of_mem _ hy)⟩
theorem sh {xs:Array Value} (h: ∀x∈xs.toList, ∀n,Instr.sameBits n x x=true):(Instr.keyThatStays (.agg xs) (.agg xs)).run P w = .ok (.agg xs) w:=by
 have e:Instr.sameBits 10000 (.agg xs) (.agg xs)=true:=by
  rw [show (10000:Nat)=9999+1 from rfl,Instr.sameBits];simp only [beq_self_eq_true,Bool.true_and];exact yt fun x hx=>h x hx 9999
 simp [Instr.keyThatStays,e]
theorem mD (em:Bool): ∀(d:Nat) (T:TypeId) (ks:List FK),DT P d T=some ks-> ∀(n:Nat),d<=n-> ∀(w:World) (xs:List Value),xs.length=ks.length->(Instr.checkKey em n T (valOf P T xs)).run P w = .ok () w
 | 0,T,ks,h,_,_,_,_,_=>by simp [DT] at h
 | d+1,T,ks,h,n,hn,w,xs,hl=>by
  obtain ⟨n,rfl⟩: ∃m,n=m+1:=⟨n - 1,by omega⟩;simp only [DT] at h
  split at h
  ·rename_i hu;simp [Instr.checkKey,run_underlying hu]
  ·rename_i hu;simp [Instr.checkKey,run_underlying hu]
  ·rename_i hu;simp [Instr.checkKey,run_underlying hu]
  ·rename_i fs hu
   split at h
   ·cases h
   ·have ih:=mD em d;rw [show valOf P T xs = .agg xs.toArray by simp only [valOf,hu],Instr.checkKey];simp only [Sem.run_bind,run_underlying hu,Result.andThen_ok];rw [<-Array.forIn_toList]
    have hl0:0+ks.length<=xs.length:=by omega
    clear hl;generalize fs.toList=L at h;generalize 0=off at h hl0
    induction L generalizing off ks with
    | nil=>simp
    | cons f L ihL=>
     simp only [DF] at h
     split at h
     ·cases h
     ·rename_i hname
      split at h
      ·rename_i k1 e1
       split at h
       ·rename_i hc
        split at h
        ·rename_i k2 e2;cases h;obtain ⟨rfl,hsz⟩:=hc;rw [List.length_append] at hl0;have p1:=re (w:=w) e1 hsz (xs:=xs) (off:=f.offset) (by omega);have p2:=ih f.type k1 e1 n (by omega) w ((xs.drop f.offset).take k1.length) (by simp;omega);simp only [List.forIn_cons,Sem.run_bind,hname,ne_eq,not_false_eq_true,if_true,Result.andThen_ok,p1,p2,Sem.run_pure];exact ihL k2 (f.offset+k1.length) e2 (by omega)
        ·cases h
       ·cases h
      ·cases h
  ·cases h
theorem sg {kt:TypeId} {ks:List FK} (ht:gS P kt=some ks) (em:Bool) {xs:Array Value} (hl:xs.size=ks.length):(Instr.checkKey em 10000 kt (.agg xs)).run P w = .ok () w:=by
 unfold gS at ht
 split at ht
 ·cases ht
 ·split at ht
  ·rename_i fs hu
   have:=mD (P:=P) em 12 kt ks ht 10000 (by omega) w xs.toList (by simpa using hl)
   simpa only [valOf,hu] using this
  ·cases ht
theorem GN {kt:TypeId} {ks:List FK} (ht:gS P kt=some ks): ∃fs,P.underlying kt=some (.struct fs):=by
 unfold gS at ht
 split at ht
 ·cases ht
 ·split at ht
  ·rename_i fs hu;exact ⟨fs,hu⟩
  ·cases ht
theorem bz {kt:TypeId} {ks:List FK} (ht:gS P kt=some ks) (k:Value) (es:List MapEntry):(Instr.findKey kt k es).run P w=(Instr.findAsking kt k es 0).run P w:=by
 obtain ⟨fs,hu⟩:=GN ht
 cases es with
 | nil=>simp [Instr.findKey,run_underlying hu,Instr.findNow,Instr.findAsking]
 | cons e es=>simp [Instr.findKey,run_underlying hu,Instr.findNow,Instr.sameNow]
theorem lK {kt:TypeId} {ks:List FK} (ht:gS P kt=some ks) {k:List AV} {kx:Value} (hk:RA D nu o w (.agg k) kx): ∀(rows:List (List AV)) (es:List MapEntry) (i:Nat) (r:Option AV),es.length=rows.length->(∀(j:Nat) row c e,rows[j]? = some row->row[0]? = some c->es[j]? = some e->RA D nu o w c e.key)->fK ks k rows=some r ->
  (r=none∧(Instr.findAsking kt kx es i).run P w = .ok none w)∨ ∃j c e row,r=some c∧(Instr.findAsking kt kx es i).run P w = .ok (some (i+j,e.val)) w∧rows[j]? = some row∧row[1]? = some c∧es[j]? = some e
 | [],[],i,r,_,_,h=>by
  simp only [fK,Ti] at h;exact .inl ⟨h.symm,by simp [Instr.findAsking]⟩
 | [],_ :: _,i,r,hl,_,_=>by simp at hl
 | _ :: _,[],i,r,hl,_,_=>by simp at hl
 | row :: l,e :: es,i,r,hl,hr,h=>by
  unfold fK at h
  split at h
  ·cases ‹row :: l=[]›
  ·rename_i k' x l' e1;cases e1;have hk':=hr 0 _ (.agg k') e rfl rfl rfl
   split at h
   ·rename_i he;cases h;obtain ⟨xs,ys,h1,h2,_,hq⟩:=jY ht he hk hk';refine .inr ⟨0,x,e,_,rfl, ?_,rfl,rfl,rfl⟩;rw [h1,Instr.findAsking,h2];simp [Op.equal,Op.maxDepth,hq]
   ·rename_i he;obtain ⟨xs,ys,h1,h2,_,hq⟩:=jY ht he hk hk'
    rcases lK ht hk l es (i+1) r (by simpa using hl) (fun j row c e q1 q2 q3=>hr (j+1) row c e (by simpa using q1) q2 (by simpa using q3)) h with ⟨q1,q2⟩|⟨j,c,e2,row2,q1,q2,q3,q4,q5⟩
    ·refine .inl ⟨q1, ?_⟩;rw [<-h1] at hq;rw [Instr.findAsking,h2];simp [Op.equal,Op.maxDepth,hq,q2]
    ·refine .inr ⟨j+1,c,e2,row2,q1, ?_,by simpa using q3,q4,by simpa using q5⟩;rw [<-h1] at hq;rw [Instr.findAsking,h2];simp [Op.equal,Op.maxDepth,hq,q2];omega
   ·cases h
  ·cases h
theorem lN {kt:TypeId} {ks:List FK} (ht:gS P kt=some ks) {k:List AV} {kx:Value} {x:AV} (hk:RA D nu o w (.agg k) kx): ∀(rows:List (List AV)) (es:List MapEntry) (i:Nat) (rows':List (List AV)),es.length=rows.length->(∀(j:Nat) row c e,rows[j]? = some row->row[0]? = some c->es[j]? = some e->RA D nu o w c e.key)->gW ks k x rows=some rows' ->
  (rows'=rows++[[.agg k,x]]∧(Instr.findAsking kt kx es i).run P w = .ok none w)∨ ∃j e,rows'=rows.set j [.agg k,x]∧(Instr.findAsking kt kx es i).run P w = .ok (some (i+j,e.val)) w∧es[j]? = some e∧e.key=kx∧(Instr.keyThatStays kx kx).run P w = .ok kx w
 | [],[],i,r,_,_,h=>by
  simp only [gW,Ti] at h;exact .inl ⟨h.symm,by simp [Instr.findAsking]⟩
 | [],_ :: _,i,r,hl,_,_=>by simp at hl
 | _ :: _,[],i,r,hl,_,_=>by simp at hl
 | row :: l,e :: es,i,r,hl,hr,h=>by
  unfold gW at h
  split at h
  ·cases ‹row :: l=[]›
  ·rename_i k' y l' e1;cases e1;have hk':=hr 0 _ (.agg k') e rfl rfl rfl
   split at h
   ·rename_i he;cases h;obtain ⟨xs',ys',rfl,rfl,h3⟩:=kN he;obtain ⟨rfl,hb⟩:=wQ h3;obtain ⟨xs,ys,h1,h2,_,hq⟩:=jY ht he hk hk';have e1:=gG hk;have e2:=gG hk';refine .inr ⟨0,e,rfl, ?_,rfl,by rw [e1,e2],by rw [e1];exact sh fun x hx=>hb x (by simpa using hx)⟩;rw [h1,Instr.findAsking,h2];simp [Op.equal,Op.maxDepth,hq]
   ·rename_i he;obtain ⟨r2,hr2,rfl⟩:=TS.1 h;obtain ⟨xs,ys,h1,h2,_,hq⟩:=jY ht he hk hk';rw [<-h1] at hq
    rcases lN ht hk l es (i+1) r2 (by simpa using hl) (fun j row c e q1 q2 q3=>hr (j+1) row c e (by simpa using q1) q2 (by simpa using q3)) hr2 with ⟨q1,q2⟩|⟨j,e2,q1,q2,q3,q4,q5⟩
    ·refine .inl ⟨by rw [q1];rfl, ?_⟩;rw [Instr.findAsking,h2];simp [Op.equal,Op.maxDepth,hq,q2]
    ·refine .inr ⟨j+1,e2,by rw [q1];rfl, ?_,by simpa using q3,q4,q5⟩;rw [Instr.findAsking,h2];simp [Op.equal,Op.maxDepth,hq,q2];omega
   ·cases h
  ·cases h
def BW (P:Program) (T:TypeId) (o:List (Option aa)):AV->Option (TypeDesc×TypeId×Nat×aa)
 | .vec id 0=>match P.underlying T with
  | some (.map kt et)=>match P.underlying kt,o[id]? with
   | some d,some (some ob)=>some (d,et,id,ob)
   | _,_=>none
  | _=>none
 | _=>none
theorem su {T:TypeId} {m:AV} {d:TypeDesc} {et:TypeId} {id:Nat} {ob:aa} {v:Value} (h:RO D nu o w) (hm:RA D nu o w m v) (ha:BW P T o m=some (d,et,id,ob)) (hV:ob.dj=false) (hz:ob.z=0) :
  ∃kt g es cl,P.underlying T=some (.map kt et)∧P.underlying kt=some d∧o[id]? = some (some ob)∧v = .map (some g)∧ua D nu o w id ob g es cl:=by
 unfold BW at ha
 split at ha
 ·split at ha
  ·rename_i kt et' hu
   split at ha
   ·rename_i d' ob' hk ho;cases ha;cases hm
    rcases h.obj id ob ho with ⟨e1,_⟩|⟨g,cur,hr⟩|⟨g,es,cl,hmp⟩
    ·rw [hV] at e1;cases e1
    ·have:=hr.z;omega
    ·exact ⟨kt,g,es,cl,hu,hk,ho,hmp.pq,hmp⟩
   ·cases ha
  ·cases ha
 ·cases ha
theorem uS (h:RO D nu o w) (P:Program) (T:TypeId):Good D nu o w ((Instr.makeMap T none).run P w) (.vec o.length 0) (o++[some ⟨T,0,false,[]⟩]):=by
 have hb:Below w.heap.size w (w.alloc (.map #[] 0)):=(Below.refl _ _).alloc (Nat.le_refl _) _
 have hv: ∀b,cr (Value.map (some w.heap.size))=some b->w.heap.size<=b:=fun b e=>by cases e;exact Nat.le_refl _
 have hm:=eo (nu:=nu) (o:=o) (ob:=⟨T,0,false,[]⟩) hb hv;refine ⟨_,_,eO nu o.length (.map (some w.heap.size)),rfl,hm,jz h hb hv (.inr (.inr ⟨w.heap.size, #[],0,(MapKept.heap_alloc w _).1,h.up _ (Nat.le_refl _),a6 _ _ _ _,rfl,rfl,rfl,fun i row hi=>by simp at hi,fun i row c e hi=>by simp at hi,fun i row c e hi=>by simp at hi,fun i e hi=>by simp at hi,fun i j e e' hi=>by simp at hi⟩)), ?_⟩
 have:=RA.vec (D:=D) (nu:=eO nu o.length (.map (some w.heap.size))) (o:=o++[some ⟨T,0,false,[]⟩]) (w:=w.alloc (.map #[] 0)) o.length 0 ⟨_,List.getElem?_concat_length,fun x hx=>Nat.zero_le _⟩ (by rw [a6];rfl)
 rwa [a6] at this
theorem JC {w':World} {id:Nat} {ob ob':aa} (h:RO D nu o w) (ho:o[id]? = some (some ob)) (hl:ob'.hl=ob.hl) {g:Nat} (hg:cr (nu id ob.hl)=some g)
  (hm:bl nu o w nu (o.set id (some ob')) w') (h5: ∀b,b≠g->w'.heap[b]? = w.heap[b]?) {es:Array MapEntry} {cl:Nat} (hn:ua D nu (o.set id (some ob')) w' id ob' g es cl):RO D nu (o.set id (some ob')) w':=by
 have hlt:=(S7.1 ho).1
 refine ⟨?_,fun b hb=>h.up b (Nat.le_trans hm.size hb), ?_,h.gl.mono hm (fun _ _ h=>h)⟩
 ·intro id' ob'' k1
  by_cases he:id=id'
  ·subst he;rw [Tw hlt] at k1;cases k1;exact .inr (.inr ⟨g,es,cl,hn⟩)
  ·rw [Tv he] at k1
   rcases h.obj id' ob'' k1 with e|⟨g',cur',hr⟩|⟨g',es,cl,hmp⟩
   ·exact .inl e
   ·have hne:g'≠g:=fun e=>h.sep id id' ob ob'' g ho k1 he hg (by rw [<-e];exact hr.bn);exact .inr (.inl ⟨g',cur',(h5 g' hne).trans hr.cZ,hr.j9,hr.box,hr.vec,hr.z,hr.row,fun i j row c x q1 q2 q3=>(hr.cell i j row c x q1 q2 q3).mono hm (fun _ _ h=>h),hr.one⟩)
   ·have hne:g'≠g:=fun e=>h.sep id id' ob ob'' g ho k1 he hg (by rw [<-e];exact hmp.bn);exact .inr (.inr ⟨g',es,cl,hmp.tr (h5 g' hne) (fun h=>h) rfl (fun i j row c x _ _ hr=>hr.mono hm (fun _ _ h=>h))⟩)
 ·intro i1 i2 b1 b2 b k1 k2 hne k3
  have key: ∀(id':Nat) (ob'':aa),(o.set id (some ob'))[id']? = some (some ob'')-> ∃ob3:aa,o[id']? = some (some ob3)∧ob3.hl=ob''.hl:=fun id' ob'' q=>by
   by_cases he:id=id'
   ·subst he;rw [Tw hlt] at q;cases q;exact ⟨ob,ho,hl.symm⟩
   ·rw [Tv he] at q;exact ⟨ob'',q,rfl⟩
  obtain ⟨o1,m1,n1⟩:=key i1 b1 k1;obtain ⟨o2,m2,n2⟩:=key i2 b2 k2;rw [<-n2];rw [<-n1] at k3;exact h.sep i1 i2 o1 o2 b m1 m2 hne k3
theorem ky {T kt et:TypeId} {x kc:AV} {k vx:Value} {id g cl:Nat} {es:Array MapEntry} {ob:aa} {rows':List (List AV)} (h:RO D nu o w) (hx:RA D nu o w x vx) (hkc:RA D nu o w kc k) (hu:P.underlying T=some (.map kt et)) (ho:o[id]? = some (some ob)) (hmp:ua D nu o w id ob g es cl) (hV:ob.dj=false) (hz:ob.z=0)
  (hck:(Instr.checkKey false 10000 kt k).run P w = .ok () w) (hs:(rows'=ob.rows++[[kc,x]]∧(Instr.findKey kt k es.toList).run P w = .ok none w)∨ ∃j e,rows'=ob.rows.set j [kc,x]∧(Instr.findKey kt k es.toList).run P w = .ok (some (j,e.val)) w∧es.toList[j]? = some e∧e.key=k∧(Instr.keyThatStays k k).run P w = .ok k w) :
  ∃w',(Instr.mapUpdate T (.map (some g)) k vx).run P w = .ok () w'∧bl nu o w nu (o.set id (some { ob with rows:=rows' })) w'∧RO D nu (o.set id (some { ob with rows:=rows' })) w':=by
 have hlt:=(S7.1 ho).1
 have hsz:es.toList.length=ob.rows.length:=by simpa using hmp.sz
 have hl:({ ob with rows:=rows' }:aa).hl=ob.hl:=by simp [aa.hl,hV]
 
 have fin: ∀(es':Array MapEntry) (cl':Nat),es'.size=rows'.length->(∀(i:Nat) row,rows'[i]? = some row->row.length=2)->(∀(i:Nat) row c e,rows'[i]? = some row->row[0]? = some c->es'[i]? = some e->RA D nu o w c e.key)->(∀(i:Nat) row c e,rows'[i]? = some row->row[1]? = some c->es'[i]? = some e->RA D nu o w c e.val) ->
   (∀(i:Nat) e,es'[i]? = some e->e.born<cl')->(∀(i j:Nat) e e',es'[i]? = some e->es'[j]? = some e'->i<j->e.born<e'.born) ->
   bl nu o w nu (o.set id (some { ob with rows:=rows' })) { w with heap:=w.heap.setIfInBounds g (.map es' cl') }∧RO D nu (o.set id (some { ob with rows:=rows' })) { w with heap:=w.heap.setIfInBounds g (.map es' cl') }:=fun es' cl' p1 p2 p3 p4 p5 p6=>by
  have hh:=MapKept.heap_set (w:=w) (o':= .map es' cl') hmp.cZ
  have hmono:bl nu o w nu (o.set id (some { ob with rows:=rows' })) { w with heap:=w.heap.setIfInBounds g (.map es' cl') }:=
   gO ho hl hmp.bn rfl rfl rfl (by simp) (fun b hb=>hh.2 b hb)
  refine ⟨hmono,JC h ho hl hmp.bn hmono (fun b hb=>hh.2 b hb) ⟨hh.1,hmp.j9,hmp.pq,hV,hz,p1,p2,fun i row c e q1 q2 q3=>(p3 i row c e q1 q2 q3).mono hmono (fun _ _ h=>h),fun i row c e q1 q2 q3=>(p4 i row c e q1 q2 q3).mono hmono (fun _ _ h=>h),p5,p6⟩⟩
 rcases hs with ⟨rfl,hf⟩|⟨j,e0,rfl,hf,he0,hek,hst⟩
 ·refine ⟨_, ?_,fin (es.push { key:=k,val:=vx,born:=cl }) (cl+1) (by simp [hmp.sz]) (fun i row hi=> ?_) (fun i row c e q1 q2 q3=> ?_) (fun i row c e q1 q2 q3=> ?_) (fun i e hi=> ?_) (fun i j e e' hi hj hij=> ?_)⟩
  ·simp [Instr.mapUpdate,run_underlying hu,MapKept.run_getObj_map hmp.cZ,hck,hf,MapKept.run_setObj_map _ hmp.cZ,Result.andThen]
  ·rcases S9 i ob.rows.length with q|q
   ·rw [S8 q] at hi;exact hmp.row i row hi
   ·rw [TD q] at hi
    have:=TI hi
    simp at this;subst this;rfl
  ·rcases S9 i ob.rows.length with q|q
   ·rw [S8 q] at q1;rw [TU (by rw [hmp.sz];exact q)] at q3;exact hmp.key i row c e q1 q2 (by rw [Tm (by rw [hmp.sz];exact q)];exact q3)
   ·rw [TD q] at q1
    have:=TI q1
    simp at this;subst this
    have hi:i=es.size:=by
     have:=(S7.1 q1).1
     simp at this;have:=hmp.sz;omega
    subst hi;rw [TV] at q3;cases q3;cases q2;exact hkc
  ·rcases S9 i ob.rows.length with q|q
   ·rw [S8 q] at q1;rw [TU (by rw [hmp.sz];exact q)] at q3;exact hmp.val i row c e q1 q2 (by rw [Tm (by rw [hmp.sz];exact q)];exact q3)
   ·rw [TD q] at q1
    have:=TI q1
    simp at this;subst this
    have hi:i=es.size:=by
     have:=(S7.1 q1).1
     simp at this;have:=hmp.sz;omega
    subst hi;rw [TV] at q3;cases q3;cases q2;exact hx
  ·rw [TW] at hi
   split at hi
   ·cases hi;exact Nat.lt_succ_self _
   ·exact Nat.lt_succ_of_lt (hmp.born i e hi)
  ·rw [TW] at hi hj
   split at hj
   ·cases hj
    split at hi
    ·omega
    ·exact hmp.born i e hi
   ·split at hi
    ·have:=(S5.1 hj).1;omega
    ·exact hmp.jT i j e e' hi hj hij
 ·have hj0:es[j]? = some e0:=by simpa using he0
  have hjl:=(S5.1 hj0).1
  have hmod: ∀i,(es.modify j fun e=>{ e with key:=k,val:=vx })[i]? = if j=i then (es[i]?).map (fun e=>{ e with key:=k,val:=vx }) else es[i]? :=fun i=>by rw [Array.getElem?_modify]
  have hbn: ∀(i:Nat) e,(es.modify j fun e=>{ e with key:=k,val:=vx })[i]? = some e-> ∃e1,es[i]? = some e1∧e1.born=e.born:=fun i e hi=>by
   rw [hmod] at hi
   split at hi
   ·obtain ⟨e1,k1,rfl⟩:=TS.1 hi;exact ⟨e1,k1,rfl⟩
   ·exact ⟨e,hi,rfl⟩
  refine ⟨_, ?_,fin (es.modify j fun e=>{ e with key:=k,val:=vx }) cl (by simp [hmp.sz]) (fun i row hi=> ?_) (fun i row c e q1 q2 q3=> ?_) (fun i row c e q1 q2 q3=> ?_) (fun i e hi=> ?_) (fun i j' e e' hi hj hij=> ?_)⟩
  ·simp [Instr.mapUpdate,run_underlying hu,MapKept.run_getObj_map hmp.cZ,hck,hf,hj0,hek,hst,MapKept.run_setObj_map _ hmp.cZ,Result.andThen]
  ·by_cases hij:j=i
   ·subst hij;rw [Tw (by rw [<-hmp.sz];exact hjl)] at hi;cases hi;rfl
   ·rw [Tv hij] at hi;exact hmp.row i row hi
  ·rw [hmod] at q3
   by_cases hij:j=i
   ·subst hij;rw [Tw (by rw [<-hmp.sz];exact hjl)] at q1;cases q1;rw [if_pos rfl] at q3;obtain ⟨e1,k1,rfl⟩:=TS.1 q3;cases q2;exact hkc
   ·rw [Tv hij] at q1;rw [if_neg hij] at q3;exact hmp.key i row c e q1 q2 q3
  ·rw [hmod] at q3
   by_cases hij:j=i
   ·subst hij;rw [Tw (by rw [<-hmp.sz];exact hjl)] at q1;cases q1;rw [if_pos rfl] at q3;obtain ⟨e1,k1,rfl⟩:=TS.1 q3;cases q2;exact hx
   ·rw [Tv hij] at q1;rw [if_neg hij] at q3;exact hmp.val i row c e q1 q2 q3
  ·obtain ⟨e1,k1,k2⟩:=hbn i e hi;rw [<-k2];exact hmp.born i e1 k1
  ·obtain ⟨e1,k1,k2⟩:=hbn i e hi;obtain ⟨e2,k3,k4⟩:=hbn j' e' hj;rw [<-k2, <- k4];exact hmp.jT i j' e1 e2 k1 k3 hij
theorem qP {T:TypeId} {m x:AV} {k v vx:Value} {d:TypeDesc} {et:TypeId} {id:Nat} {ob:aa} {rows':List (List AV)} (h:RO D nu o w) (hm:RA D nu o w m v) (hx:RA D nu o w x vx) (ha:BW P T o m=some (d,et,id,ob)) (hV:ob.dj=false) (hz:ob.z=0) (hk:cm d k=true)
  (hs:jf d k x ob.rows=some rows'): ∃w',(Instr.mapUpdate T v k vx).run P w = .ok () w'∧bl nu o w nu (o.set id (some { ob with rows:=rows' })) w'∧RO D nu (o.set id (some { ob with rows:=rows' })) w':=by
 obtain ⟨kt,g,es,cl,hu,hkd,ho,rfl,hmp⟩:=su h hm ha hV hz;have hIK:=dw hk
 have hsz:es.toList.length=ob.rows.length:=by simpa using hmp.sz
 refine ky h hx (.v k) hu ho hmp hV hz (run_checkKey hkd hIK _ _) ?_
 rcases sy hk ob.rows es.toList 0 rows' hsz (fun j row c e q1 q2 q3=>hmp.key j row c e q1 q2 (by simpa using q3)) hs with ⟨h1,hf⟩|⟨j,e0,h1,hf,he0,hek⟩
 ·exact .inl ⟨h1,run_findKey hkd hf⟩
 ·exact .inr ⟨j,e0,h1,by rw [run_findKey hkd hf,Nat.zero_add],he0,hek,run_keyThatStays hIK⟩
def mr (P:Program) (T:TypeId) (o:List (Option aa)):AV->Option (TypeId×TypeId×Nat×aa)
 | .vec id 0=>match P.underlying T,o[id]? with
  | some (.map kt et),some (some ob)=>some (kt,et,id,ob)
  | _,_=>none
 | _=>none
theorem lM {T:TypeId} {m:AV} {kt et:TypeId} {id:Nat} {ob:aa} {v:Value} (h:RO D nu o w) (hm:RA D nu o w m v) (ha:mr P T o m=some (kt,et,id,ob)) (hV:ob.dj=false) (hz:ob.z=0) :
  ∃g es cl,P.underlying T=some (.map kt et)∧o[id]? = some (some ob)∧v = .map (some g)∧ua D nu o w id ob g es cl:=by
 unfold mr at ha
 split at ha
 ·split at ha
  ·rename_i kt' et' ob' hu ho;cases ha;cases hm
   rcases h.obj id ob ho with ⟨e1,_⟩|⟨g,cur,hr⟩|⟨g,es,cl,hmp⟩
   ·rw [hV] at e1;cases e1
   ·have:=hr.z;omega
   ·exact ⟨g,es,cl,hu,ho,hmp.pq,hmp⟩
  ·cases ha
 ·cases ha
theorem za {kt:TypeId} {ks:List FK} {k:List AV} {kx:Value} (ht:gS P kt=some ks) (hk:RA D nu o w (.agg k) kx) (hw:fX ks k k=some true) (em:Bool):(Instr.checkKey em 10000 kt kx).run P w = .ok () w:=by
 obtain ⟨xs,_,rfl,_,h3⟩:=kN hw;rw [gG hk];exact sg ht em (by simpa using (pA h3).1)
theorem gd {T:TypeId} {m x:AV} {k:List AV} {kx v vx:Value} {kt et:TypeId} {ks:List FK} {id:Nat} {ob:aa} {rows':List (List AV)} (h:RO D nu o w) (hm:RA D nu o w m v) (hk:RA D nu o w (.agg k) kx) (hx:RA D nu o w x vx) (ha:mr P T o m=some (kt,et,id,ob)) (ht:gS P kt=some ks) (hV:ob.dj=false) (hz:ob.z=0) (hw:fX ks k k=some true)
  (hs:gW ks k x ob.rows=some rows'): ∃w',(Instr.mapUpdate T v kx vx).run P w = .ok () w'∧bl nu o w nu (o.set id (some { ob with rows:=rows' })) w'∧RO D nu (o.set id (some { ob with rows:=rows' })) w':=by
 obtain ⟨g,es,cl,hu,ho,rfl,hmp⟩:=lM h hm ha hV hz
 have hsz:es.toList.length=ob.rows.length:=by simpa using hmp.sz
 refine ky h hx hk hu ho hmp hV hz (za ht hk hw _) ?_
 rcases lN ht hk ob.rows es.toList 0 rows' hsz (fun j row c e q1 q2 q3=>hmp.key j row c e q1 q2 (by simpa using q3)) hs with ⟨h1,hf⟩|⟨j,e0,h1,hf,he0,hek,hst⟩
 ·exact .inl ⟨h1,by rw [bz ht,hf]⟩
 ·exact .inr ⟨j,e0,h1,by rw [bz ht,hf,Nat.zero_add],he0,hek,hst⟩
def oL (P:Program) (T:TypeId):Option AV:=match P.info? T with
 | some i=>match i.zero with
  | some (.agg xs)=>if xs.toList.all (·.oneCell') then some (.agg (xs.toList.map AV.v)) else none
  | some zv=>some (.v zv)
  | none=>none
 | none=>none
theorem jg {T:TypeId} {c:AV} (h:oL P T=some c): ∃zv,(zeroValue T).run P w = .ok zv w∧RA D nu o w c zv:=by
 unfold oL at h
 split at h
 ·rename_i i hi
  split at h
  ·rename_i xs hz
   split at h
   ·rename_i hall;cases h
    refine ⟨.agg xs,by simp [zeroValue,typeInfo,hi,hz], .agg _ _ (by simp) (fun i c x q1 q2=> ?_) (fun i x q=> ?_)⟩
    ·rw [List.getElem?_map] at q1
     have:xs.toList[i]? = some x:=by simpa using q2
     rw [this] at q1;cases q1;exact .v _
    ·rw [List.all_eq_true] at hall;exact hall x (TI (i:=i) (by simpa using q))
   ·cases h
  ·rename_i zv hne hz;cases h;exact ⟨zv,by simp [zeroValue,typeInfo,hi,hz], .v _⟩
  ·cases h
 ·cases h
def uj (P:Program) (T:TypeId) (o:List (Option aa)) (m k:AV) (ok:Bool):Option (Prop×AV):=match BW P T o m,k with
 | some (d,et,_,ob), .v kv=>if cm d kv then match jQ d kv ob.rows with
  | some (some c)=>some (ob.dj=false∧ob.z=0,if ok then .ct [c, .v (.bool true)] else c)
  | some none=>match oL P et with
   | some z=>some (ob.dj=false∧ob.z=0,if ok then .ct [z, .v (.bool false)] else z)
   | none=>none
  | none=>none
  else none
 | _,_=>none
theorem RA.pair {c:AV} {x:Value} {b:Bool} (h:RA D nu o w c x):RA D nu o w (.ct [c, .v (.bool b)]) (.tuple #[x, .bool b]):=by
 refine .ct _ _ rfl (fun i a y q1 q2=> ?_)
 match i,q1,q2 with
 | 0,q1,q2=>cases q1;cases q2;exact h
 | 1,q1,q2=>cases q1;cases q2;exact .v _
 | i+2,q1,q2=>simp at q1
theorem v7 {T:TypeId} {m k:AV} {vm vk:Value} {ok:Bool} {p:Prop} {r:AV} (h:RO D nu o w) (hm:RA D nu o w m vm) (hk:RA D nu o w k vk) (ha:uj P T o m k ok=some (p,r)) (hp:p): ∃v,(Instr.lookup T vm vk ok).run P w = .ok v w∧RA D nu o w r v:=by
 unfold uj at ha
 split at ha
 ·rename_i d et id ob kv e1;obtain rfl:=hk.plain
  split at ha
  ·rename_i hkb
   have fin:ob.dj=false∧ob.z=0-> ∀q,jQ d vk ob.rows=some q-> ∃kt g es cl,P.underlying T=some (.map kt et)∧P.underlying kt=some d∧vm = .map (some g)∧w.heap[g]? = some (.map es cl)∧ua D nu o w id ob g es cl ∧
     ((q=none∧Instr.findNow d vk es.toList 0=some none)∨ ∃j c e row,q=some c∧Instr.findNow d vk es.toList 0=some (some (0+j,e.val))∧ob.rows[j]? = some row∧row[1]? = some c∧es.toList[j]? = some e):=fun hh q hq=>by
    obtain ⟨kt,g,es,cl,hu,hkd,ho,rfl,hmp⟩:=su h hm e1 hh.1 hh.2;exact ⟨kt,g,es,cl,hu,hkd,rfl,hmp.cZ,hmp,nB hkb ob.rows es.toList 0 q (by simpa using hmp.sz) (fun j row c e q1 q2 q3=>hmp.key j row c e q1 q2 (by simpa using q3)) hq⟩
   split at ha
   ·rename_i c hq;simp only [Ti,Tj] at ha;obtain ⟨rfl,rfl⟩:=ha;obtain ⟨kt,g,es,cl,hu,hkd,rfl,hb,hmp,hf⟩:=fin hp _ hq
    rcases hf with ⟨q1,_⟩|⟨j,c',e,row,q1,q2,q3,q4,q5⟩
    ·cases q1
    ·cases q1;have hra:RA D nu o w c e.val:=hmp.val j row c e q3 q4 (by simpa using q5)
     cases ok
     ·exact ⟨e.val,by simp [Instr.lookup,run_underlying hu,MapKept.run_getObj_map hb,run_checkKey hkd (dw hkb),run_findKey hkd q2,Result.andThen],hra⟩
     ·exact ⟨.tuple #[e.val, .bool true],by simp [Instr.lookup,run_underlying hu,MapKept.run_getObj_map hb,run_checkKey hkd (dw hkb),run_findKey hkd q2,Result.andThen],hra.pair⟩
   ·rename_i hq
    split at ha
    ·rename_i z hz;simp only [Ti,Tj] at ha;obtain ⟨rfl,rfl⟩:=ha;obtain ⟨kt,g,es,cl,hu,hkd,rfl,hb,hmp,hf⟩:=fin hp _ hq
     rcases hf with ⟨_,q2⟩|⟨j,c',e,row,q1,_⟩
     ·obtain ⟨zv,z1,z2⟩:=jg (D:=D) (nu:=nu) (o:=o) (w:=w) hz
      cases ok
      ·exact ⟨zv,by simp [Instr.lookup,run_underlying hu,MapKept.run_getObj_map hb,run_checkKey hkd (dw hkb),run_findKey hkd q2,z1,Result.andThen],z2⟩
      ·exact ⟨.tuple #[zv, .bool false],by simp [Instr.lookup,run_underlying hu,MapKept.run_getObj_map hb,run_checkKey hkd (dw hkb),run_findKey hkd q2,z1,Result.andThen],z2.pair⟩
     ·cases q1
    ·cases ha
   ·cases ha
  ·cases ha
 ·cases ha
def ui (P:Program) (T:TypeId) (rows:List (List AV)) (k:AV) (ok:Bool):Option (Prop×AV):=match P.underlying T,k with
 | some (.map kt et), .v kv=>match P.underlying kt with
  | some d=>if cm d kv then match jQ d kv rows with
   | some (some c)=>some (True,if ok then .ct [c, .v (.bool true)] else c)
   | some none=>match oL P et with
    | some z=>some (True,if ok then .ct [z, .v (.bool false)] else z)
    | none=>none
   | none=>none
   else none
  | none=>none
 | _,_=>none
theorem vZ {T:TypeId} {rows:List (List AV)} {k:AV} {vm vk:Value} {ok:Bool} {p:Prop} {r:AV} (hm:RA D nu o w (.mp rows) vm) (hk:RA D nu o w k vk) (ha:ui P T rows k ok=some (p,r)): ∃v,(Instr.lookup T vm vk ok).run P w = .ok v w∧RA D nu o w r v:=by
 unfold ui at ha
 split at ha
 ·rename_i kt et kv hu;obtain rfl:=hk.plain
  split at ha
  ·rename_i d hkd
   split at ha
   ·rename_i hkb
    cases hm with
    | mp _ b es cl h1 hb h3 h4 h5 h6 h7=>
    have fin:=fun q hq=>nB (D:=D) (nu:=nu) (o:=o) (w:=w) hkb rows es.toList 0 q (by simpa using h3) (fun j row c e q1 q2 q3=>h7 j 0 row c e q1 q2 (by simpa using q3)) hq
    split at ha
    ·rename_i c hq;simp only [Ti,Tj] at ha;obtain ⟨rfl,rfl⟩:=ha
     rcases fin _ hq with ⟨q1,_⟩|⟨j,c',e,row,q1,q2,q3,q4,q5⟩
     ·cases q1
     ·cases q1;have hra:RA D nu o w c e.val:=h7 j 1 row c e q3 q4 (by simpa using q5)
      cases ok
      ·exact ⟨e.val,by simp [Instr.lookup,run_underlying hu,MapKept.run_getObj_map hb,run_checkKey hkd (dw hkb),run_findKey hkd q2,Result.andThen],hra⟩
      ·exact ⟨.tuple #[e.val, .bool true],by simp [Instr.lookup,run_underlying hu,MapKept.run_getObj_map hb,run_checkKey hkd (dw hkb),run_findKey hkd q2,Result.andThen],hra.pair⟩
    ·rename_i hq
     split at ha
     ·rename_i z hz;simp only [Ti,Tj] at ha;obtain ⟨rfl,rfl⟩:=ha
      rcases fin _ hq with ⟨_,q2⟩|⟨j,c',e,row,q1,_⟩
      ·obtain ⟨zv,z1,z2⟩:=jg (D:=D) (nu:=nu) (o:=o) (w:=w) hz
       cases ok
       ·exact ⟨zv,by simp [Instr.lookup,run_underlying hu,MapKept.run_getObj_map hb,run_checkKey hkd (dw hkb),run_findKey hkd q2,z1,Result.andThen],z2⟩
       ·exact ⟨.tuple #[zv, .bool false],by simp [Instr.lookup,run_underlying hu,MapKept.run_getObj_map hb,run_checkKey hkd (dw hkb),run_findKey hkd q2,z1,Result.andThen],z2.pair⟩
      ·cases q1
     ·cases ha
    ·cases ha
   ·cases ha
  ·cases ha
 ·cases ha
def iA (P:Program) (et:TypeId) (ks:List FK) (rows:List (List AV)) (k:List AV) (ok:Bool):Option AV:=if fX ks k k=some true then match fK ks k rows with
 | some (some c)=>some (if ok then .ct [c, .v (.bool true)] else c)
 | some none=>match oL P et with
  | some z=>some (if ok then .ct [z, .v (.bool false)] else z)
  | none=>none
 | none=>none
 else none
theorem lL {T kt et:TypeId} {ks:List FK} {rows:List (List AV)} {k:List AV} {kx:Value} {ok:Bool} {r:AV} {g cl:Nat} {es:Array MapEntry} (hu:P.underlying T=some (.map kt et)) (ht:gS P kt=some ks) (hk:RA D nu o w (.agg k) kx) (hb:w.heap[g]? = some (.map es cl)) (hsz:es.size=rows.length)
  (hkey: ∀(i:Nat) row c e,rows[i]? = some row->row[0]? = some c->es[i]? = some e->RA D nu o w c e.key) (hval: ∀(i:Nat) row c e,rows[i]? = some row->row[1]? = some c->es[i]? = some e->RA D nu o w c e.val) (ha:iA P et ks rows k ok=some r): ∃v,(Instr.lookup T (.map (some g)) kx ok).run P w = .ok v w∧RA D nu o w r v:=by
 unfold iA at ha
 split at ha
 ·rename_i hw;have hck:=fun em=>za (P:=P) ht hk hw em;have fin:=fun q hq=>lK ht hk rows es.toList 0 q (by simpa using hsz) (fun j row c e q1 q2 q3=>hkey j row c e q1 q2 (by simpa using q3)) hq
  split at ha
  ·rename_i c hq;cases ha
   rcases fin _ hq with ⟨q1,_⟩|⟨j,c',e,row,q1,q2,q3,q4,q5⟩
   ·cases q1
   ·cases q1;have hra:RA D nu o w c e.val:=hval j row c e q3 q4 (by simpa using q5)
    cases ok
    ·exact ⟨e.val,by simp [Instr.lookup,run_underlying hu,MapKept.run_getObj_map hb,hck,bz ht,q2,Result.andThen],hra⟩
    ·exact ⟨.tuple #[e.val, .bool true],by simp [Instr.lookup,run_underlying hu,MapKept.run_getObj_map hb,hck,bz ht,q2,Result.andThen],hra.pair⟩
  ·rename_i hq
   split at ha
   ·rename_i z hz;cases ha
    rcases fin _ hq with ⟨_,q2⟩|⟨j,c',e,row,q1,_⟩
    ·obtain ⟨zv,z1,z2⟩:=jg (D:=D) (nu:=nu) (o:=o) (w:=w) hz
     cases ok
     ·exact ⟨zv,by simp [Instr.lookup,run_underlying hu,MapKept.run_getObj_map hb,hck,bz ht,q2,z1,Result.andThen],z2⟩
     ·exact ⟨.tuple #[zv, .bool false],by simp [Instr.lookup,run_underlying hu,MapKept.run_getObj_map hb,hck,bz ht,q2,z1,Result.andThen],z2.pair⟩
    ·cases q1
   ·cases ha
  ·cases ha
 ·cases ha
def nC (P:Program) (T:TypeId) (o:List (Option aa)) (m:AV) (k:List AV) (ok:Bool):Option (Prop×AV):=match m,P.underlying T with
 | .mp rows,some (.map kt et)=>match gS P kt with
  | some ks=>(iA P et ks rows k ok).map (True, ·)
  | none=>none
 | .vec id 0,some (.map kt et)=>match gS P kt,o[id]? with
  | some ks,some (some ob)=>(iA P et ks ob.rows k ok).map (ob.dj=false∧ob.z=0, ·)
  | _,_=>none
 | _,_=>none
theorem oJ {T:TypeId} {m:AV} {k:List AV} {vm vk:Value} {ok:Bool} {p:Prop} {r:AV} (h:RO D nu o w) (hm:RA D nu o w m vm) (hk:RA D nu o w (.agg k) vk) (ha:nC P T o m k ok=some (p,r)) (hp:p): ∃v,(Instr.lookup T vm vk ok).run P w = .ok v w∧RA D nu o w r v:=by
 unfold nC at ha
 split at ha
 ·rename_i rows kt et hu
  split at ha
  ·rename_i ks ht;obtain ⟨r',hr,e⟩:=TS.1 ha;cases e
   cases hm with
   | mp _ b es cl h1 hb h3 h4 h5 h6 h7=>exact lL hu ht hk hb h3 (fun i row c e q1 q2 q3=>h7 i 0 row c e q1 q2 q3) (fun i row c e q1 q2 q3=>h7 i 1 row c e q1 q2 q3) hr
  ·cases ha
 ·rename_i id kt et hu
  split at ha
  ·rename_i ks ob ht ho;obtain ⟨r',hr,e⟩:=TS.1 ha;cases e
   have e0:mr P T o (.vec id 0)=some (kt,et,id,ob):=by simp only [mr,hu,ho]
   obtain ⟨g,es,cl,hu',ho',rfl,hmp⟩:=lM h hm e0 hp.1 hp.2;exact lL hu ht hk hmp.cZ hmp.sz hmp.key hmp.val hr
  ·cases ha
 ·cases ha
def vY (P:Program) (T:TypeId) (o:List (Option aa)) (m k:AV) (ok:Bool):Option (Prop×AV):=match k with
 | .agg ks=>nC P T o m ks ok
 | .v kv=>match m with
  | .mp rows=>ui P T rows (.v kv) ok
  | .vec id len=>uj P T o (.vec id len) (.v kv) ok
  | _=>none
 | _=>none
theorem pV {T:TypeId} {m k:AV} {vm vk:Value} {ok:Bool} {p:Prop} {r:AV} (h:RO D nu o w) (hm:RA D nu o w m vm) (hk:RA D nu o w k vk) (ha:vY P T o m k ok=some (p,r)) (hp:p): ∃v,(Instr.lookup T vm vk ok).run P w = .ok v w∧RA D nu o w r v:=by
 unfold vY at ha
 split at ha
 ·exact oJ h hm hk ha hp
 ·split at ha
  ·exact vZ hm hk ha
  ·exact v7 h hm hk ha hp
  ·cases ha
 ·cases ha
def pW (P:Program) (T:TypeId) (o:List (Option aa)) (m k x:AV):Option (Prop×List (Option aa)):=match k with
 | .agg kc=>match mr P T o m with
  | some (kt,_,id,ob)=>match gS P kt with
   | some ks=>if fX ks kc kc=some true then match gW ks kc x ob.rows with
    | some rows=>some (ob.dj=false∧ob.z=0,o.set id (some ⟨ob.T,ob.z,ob.dj,rows⟩))
    | none=>none
    else none
   | none=>none
  | none=>none
 | .v kv=>match BW P T o m with
  | some (d,_,id,ob)=>if cm d kv then match jf d kv x ob.rows with
   | some rows=>some (ob.dj=false∧ob.z=0,o.set id (some ⟨ob.T,ob.z,ob.dj,rows⟩))
   | none=>none
   else none
  | none=>none
 | _=>none
theorem oK {T:TypeId} {m k x:AV} {vm vk vx:Value} {p:Prop} {o':List (Option aa)} (h:RO D nu o w) (hm:RA D nu o w m vm) (hk:RA D nu o w k vk) (hx:RA D nu o w x vx) (ha:pW P T o m k x=some (p,o')) (hp:p) :
  ∃w',(Instr.mapUpdate T vm vk vx).run P w = .ok () w'∧bl nu o w nu o' w'∧RO D nu o' w':=by
 unfold pW at ha
 split at ha
 ·split at ha
  ·rename_i kt et id ob e1
   split at ha
   ·rename_i ks ht
    split at ha
    ·rename_i hw
     split at ha
     ·rename_i rows hs;simp only [Ti,Tj] at ha;obtain ⟨rfl,rfl⟩:=ha;exact gd h hm hk hx e1 ht hp.1 hp.2 hw hs
     ·cases ha
    ·cases ha
   ·cases ha
  ·cases ha
 ·split at ha
  ·rename_i kv d et id ob e1;obtain rfl:=hk.plain
   split at ha
   ·rename_i hkb
    split at ha
    ·rename_i rows hs;simp only [Ti,Tj] at ha;obtain ⟨rfl,rfl⟩:=ha;exact qP h hm hx e1 hp.1 hp.2 hkb hs
    ·cases ha
   ·cases ha
  ·cases ha
 ·cases ha
end
end
section
attribute [go_sem_proc] Nat.reduceAdd Nat.reduceSub Nat.reduceMul Nat.reduceLeDiff Nat.reduceEqDiff Nat.reduceLT Int.reduceToNat reduceCtorEq Int.reduceLE Int.reduceLT Int.reduceNeg Int.reduceEq Int.reduceBEq Int.reduceBNe
attribute [go_sem_proc ↓] reduceIte
open Go.RowKit
inductive Ex where
 | mk (kind:Int) (label:ByteArray) (kids:List Ex)
def Ex.kind:Ex->Int| .mk k _ _=>k
def Ex.label:Ex->ByteArray| .mk _ s _=>s
def Ex.kids:Ex->List Ex| .mk _ _ l=>l
theorem Ex.ind {P:Ex->Prop} (h: ∀k s kids,(∀x,x∈kids->P x)->P (.mk k s kids)): ∀x,P x:=
 @Ex.rec P (fun l=> ∀x,x∈l->P x) (fun k s kids ih=>h k s kids ih) (fun x hx=>by cases hx) (fun hd tl h1 h2 x hx=>by
  cases hx with
  | head=>exact h1
  | tail _ hm=>exact h2 x hm)
def BT (w:World) (v:Value) (e:Ending) (w':World):Prop:=e = .returned v∧Below w.heap.size w w'
theorem ju {w:World} {b o:Nat} {v:Value} (h:w.cell? ⟨b,o,none⟩=some v):b<w.heap.size:=by
 rcases Nat.lt_or_ge b w.heap.size with h'|h'
 ·exact h'
 ·simp [World.cell?,Array.getElem?_eq_none h'] at h
theorem y9 {w w':World} (hb:Below w.heap.size w w') {b o:Nat} {v:Value} (h:w.cell? ⟨b,o,none⟩=some v):w'.cell? ⟨b,o,none⟩=some v:=
 (hb.cell (p:=⟨b,o,none⟩) (ju h)).trans h
theorem cB {w w1 w2:World} (h:Below w.heap.size w w1) (k:Below w1.heap.size w1 w2):Below w.heap.size w w2:=h.trans (k.mono h.size)
theorem cQ (w:World):Below w.heap.size w w.drew:=(Below.refl _ _).drew
theorem bT {w w':World} {v:Value} {b b':Bool} (hv:v = .bool b) (h:b=b') (hb:Below w.heap.size w w'):BT w (.bool b') (.returned v) w':=⟨by rw [hv,h],hb⟩
def BU (w:World) (v:Value) (e:Ending) (w':World):Prop:=e = .returned v∧w=w'
theorem rq {w:World} {v:Value} {b b':Bool} (hv:v = .bool b) (h:b=b'):BU w (.bool b') (.returned v) w:=⟨by rw [hv,h],rfl⟩
theorem Gm {w:World} {v:Value} {b b':Int} (hv:v = .int .i64 b) (h:b=b'):BU w (.int .i64 b') (.returned v) w:=⟨by rw [hv,h],rfl⟩
def cq (w:World) (b o:Nat):List Value->Prop
 | []=>True
 | v :: vs=>w.cell? ⟨b,o,none⟩=some v∧cq w b (o+1) vs
def Cells (w w':World):Prop:= ∀b o v,w.cell? ⟨b,o,none⟩=some v->w'.cell? ⟨b,o,none⟩=some v
theorem Cells.of {w w':World} (hb:Below w.heap.size w w'):Cells w w':=fun _ _ _ h=>y9 hb h
theorem Cells.trans {a b c:World} (h:Cells a b) (k:Cells b c):Cells a c:=fun x o v hv=>k x o v (h x o v hv)
theorem cq.cells {w w':World} (hb:Cells w w'): ∀ {vs:List Value} {b o:Nat},cq w b o vs->cq w' b o vs
 | [],_,_,_=>trivial
 | _ :: _,_,_,h=>⟨hb _ _ _ h.1,h.2.cells hb⟩
theorem cq.below {w w':World} (hb:Below w.heap.size w w') {vs:List Value} {b o:Nat} (h:cq w b o vs):cq w' b o vs:=h.cells (.of hb)
def dD {α:Type} (w:World) (sz:Nat) (rd:α->List Value->Prop) (xs:List α) (v:Value):Prop:=
 ((v = .slice none 0 0∨ ∃a:Addr,v = .slice (some a) 0 0)∧xs=[])∨ ∃b o cap,v = .slice (some ⟨b,o,none⟩) xs.length cap∧xs.length<=cap∧cap<=maxLen ∧
  ∀i x,xs[i]? = some x-> ∃cs,rd x cs∧cq w b (o+i * sz) cs
theorem dD.Qd {α:Type} {w w':World} {sz:Nat} {rd rd':α->List Value->Prop} {xs:List α} {v:Value} (h:dD w sz rd xs v)
  (hb:Cells w w') (hrd: ∀x cs,x∈xs->rd x cs->rd' x cs):dD w' sz rd' xs v:=by
 rcases h with h|⟨b,o,cap,hv,h1,h2,h3⟩
 ·exact .inl h
 ·refine .inr ⟨b,o,cap,hv,h1,h2,fun i x hx=> ?_⟩;obtain ⟨cs,hc,hw⟩:=h3 i x hx;exact ⟨cs,hrd x cs (TI hx) hc,hw.cells hb⟩
theorem dD.imp {α:Type} {w w':World} {sz:Nat} {rd rd':α->List Value->Prop} {xs:List α} {v:Value} (h:dD w sz rd xs v)
  (hb:Below w.heap.size w w') (hrd: ∀x cs,x∈xs->rd x cs->rd' x cs):dD w' sz rd' xs v:=by
 rcases h with h|⟨b,o,cap,hv,h1,h2,h3⟩
 ·exact .inl h
 ·refine .inr ⟨b,o,cap,hv,h1,h2,fun i x hx=> ?_⟩;obtain ⟨cs,hc,hw⟩:=h3 i x hx;exact ⟨cs,hrd x cs (TI hx) hc,hw.below hb⟩
theorem dD.below {α:Type} {w w':World} {sz:Nat} {rd:α->List Value->Prop} {xs:List α} {v:Value} (h:dD w sz rd xs v)
  (hb:Below w.heap.size w w'):dD w' sz rd xs v:=h.imp hb (fun _ _ _ h=>h)
theorem dD.shape {α:Type} {w:World} {sz:Nat} {rd:α->List Value->Prop} {xs:List α} {v:Value} (h:dD w sz rd xs v) :
  ∃p cap,v = .slice p xs.length cap∧xs.length<=cap∧cap<=maxLen:=by
 rcases h with ⟨rfl|⟨a,rfl⟩,rfl⟩|⟨b,o,cap,hv,h1,h2,h3⟩
 ·exact ⟨none,0,rfl,Nat.le_refl _,by unfold maxLen;omega⟩
 ·exact ⟨some a,0,rfl,Nat.le_refl _,by unfold maxLen;omega⟩
 ·exact ⟨_,cap,hv,h1,h2⟩
theorem dD.at {α:Type} {w:World} {sz:Nat} {rd:α->List Value->Prop} {xs:List α} {p:Option Addr} {n cap:Nat} (h:dD w sz rd xs (.slice p n cap))
  {k:Nat} (hk:k<xs.length): ∃b o cs,p=some ⟨b,o,none⟩∧rd xs[k] cs∧cq w b (o+k * sz) cs:=by
 rcases h with ⟨_,rfl⟩|⟨b,o,cap,hv,h1,h2,h3⟩
 ·simp at hk
 ·obtain ⟨cs,hc,hw⟩:=h3 k xs[k] (by simp [hk]);cases hv;exact ⟨b,o,cs,rfl,hc,hw⟩
mutual
def dI (w:World):Ex->List Value->Prop
 | .mk k s kids,cs=> ∃sv,cs=[.int .i64 k, .string s,sv]∧jX w kids sv
def jX (w:World):List Ex->Value->Prop
 | [],v=>(v = .slice none 0 0∨ ∃a:Addr,v = .slice (some a) 0 0)∨ ∃b o cap,v = .slice (some ⟨b,o,none⟩) 0 cap∧cap<=maxLen
 | x :: xs,v=> ∃b o cap cs,v = .slice (some ⟨b,o,none⟩) (xs.length+1) cap∧xs.length+1<=cap∧cap<=maxLen∧dI w x cs∧cq w b o cs∧pQ w b (o+3) xs
def pQ (w:World) (b:Nat):Nat->List Ex->Prop
 | _,[]=>True
 | o,x :: xs=> ∃cs,dI w x cs∧cq w b o cs∧pQ w b (o+3) xs
end
theorem lf {w:World} {b:Nat}: ∀ {xs:List Ex} {o:Nat},pQ w b o xs ↔ ∀i x,xs[i]? = some x-> ∃cs,dI w x cs∧cq w b (o+i * 3) cs
 | [],o=>⟨fun _ i x h=>by simp at h,fun _=>by simp [pQ]⟩
 | y :: ys,o=>by
  rw [pQ]
  constructor
  ·rintro ⟨cs,h1,h2,h3⟩ i x hx
   cases i with
   | zero=>simp at hx;subst hx;exact ⟨cs,h1,by simpa using h2⟩
   | succ i=>
    obtain ⟨cs',h4,h5⟩:=lf.1 h3 i x (by simpa using hx);exact ⟨cs',h4,by rw [show o+(i+1) * 3=o+3+i * 3 by omega];exact h5⟩
  ·intro h;obtain ⟨cs,h1,h2⟩:=h 0 y (by simp);refine ⟨cs,h1,by simpa using h2,lf.2 fun i x hx=> ?_⟩;obtain ⟨cs',h4,h5⟩:=h (i+1) x (by simpa using hx);exact ⟨cs',h4,by rw [show o+3+i * 3=o+(i+1) * 3 by omega];exact h5⟩
theorem fB {w:World}: ∀ {xs:List Ex} {v:Value},jX w xs v↔dD w 3 (dI w) xs v
 | [],v=>by
  rw [jX]
  constructor
  ·rintro (h|⟨b,o,cap,h1,h2⟩)
   ·exact .inl ⟨h,rfl⟩
   ·exact .inr ⟨b,o,cap,by simpa using h1,by simp,h2,fun i x h=>by simp at h⟩
  ·rintro (h|⟨b,o,cap,h1,_,h2,_⟩)
   ·exact .inl h.1
   ·exact .inr ⟨b,o,cap,by simpa using h1,h2⟩
 | x :: xs,v=>by
  rw [jX]
  constructor
  ·rintro ⟨b,o,cap,cs,h1,h2,h3,h4,h5,h6⟩;refine .inr ⟨b,o,cap,by simpa using h1,by simpa using h2,h3, ?_⟩
   have:=(lf (xs:=x :: xs) (o:=o)).1 (by rw [pQ];exact ⟨cs,h4,h5,h6⟩)
   exact this
  ·rintro (⟨_,h⟩|⟨b,o,cap,h1,h2,h3,h4⟩)
   ·cases h
   ·have:=(lf (xs:=x :: xs) (o:=o)).2 h4
    rw [pQ] at this;obtain ⟨cs,h5,h6,h7⟩:=this;exact ⟨b,o,cap,cs,by simpa using h1,by simpa using h2,h3,h5,h6,h7⟩
theorem dI.cells {w w':World} (hb:Cells w w'): ∀x:Ex, ∀cs,dI w x cs->dI w' x cs:=by
 intro x
 induction x using Ex.ind with
 | h k s kids ih=>
  intro cs h;rw [dI] at h ⊢;obtain ⟨sv,h1,h2⟩:=h;exact ⟨sv,h1,fB.2 ((fB.1 h2).Qd hb (fun x cs hx=>ih x hx cs))⟩
theorem dI.below {w w':World} (hb:Below w.heap.size w w') (x:Ex) (cs:List Value) (h:dI w x cs):dI w' x cs:=dI.cells (.of hb) x cs h
theorem jX.shape {w:World} {xs:List Ex} {v:Value} (h:jX w xs v): ∃p cap,v = .slice p xs.length cap∧xs.length<=cap∧cap<=maxLen:=(fB.1 h).shape
theorem jX.at {w:World} {xs:List Ex} {p:Option Addr} {n cap:Nat} (h:jX w xs (.slice p n cap)) {k:Nat} (hk:k<xs.length) :
  ∃b o kd s kids sv,p=some ⟨b,o,none⟩∧xs[k] = .mk kd s kids∧jX w kids sv ∧
   w.cell? ⟨b,o+k * 3,none⟩=some (.int .i64 kd)∧w.cell? ⟨b,o+k * 3+1,none⟩=some (.string s)∧w.cell? ⟨b,o+k * 3+2,none⟩=some sv:=by
 obtain ⟨b,o,cs,hp,hr,hc⟩:=(fB.1 h).at hk
 rcases hx:xs[k] with ⟨kd,s,kids⟩
 rw [hx,dI] at hr;obtain ⟨sv,rfl,hr⟩:=hr;exact ⟨b,o,kd,s,kids,sv,hp,rfl,hr,hc.1,hc.2.1,hc.2.2.1⟩
def P1 {α β:Type} (f:α->β->Bool):List α->List β->Bool
 | [],[]=>true
 | x :: xs,y :: ys=>f x y&&P1 f xs ys
 | _,_=>false
mutual
def zi:Ex->Ex->Bool
 | .mk k s l, .mk k' s' l'=>(k==k')&&(s.toList==s'.toList)&&A0 l l'
def A0:List Ex->List Ex->Bool
 | [],[]=>true
 | x :: xs,y :: ys=>zi x y&&A0 xs ys
 | _,_=>false
end
structure yL where
 kind:Int
 num:Int
 text:ByteArray
structure rU where
 kind:Int
 name:ByteArray
 key:ByteArray
 val:yL
structure Aw where
 op:Int
 left:rU
 right:rU
structure lz where
 aG:ByteArray
 to:ByteArray
 path:Bool
 label:ByteArray
 name:ByteArray
 expr:Ex
structure BS where
 pt:List lz
 conds:List Aw
 ret:List rU
 range:Int
 GA:Int
def yL.cells (x:yL):List Value:=[.int .i64 x.kind, .int .i64 x.num, .string x.text]
def rU.cells (x:rU):List Value:=[.int .i64 x.kind, .string x.name, .string x.key, .int .i64 x.val.kind, .int .i64 x.val.num, .string x.val.text]
def Aw.cells (x:Aw):List Value:=[.int .i64 x.op, .int .i64 x.left.kind, .string x.left.name, .string x.left.key, .int .i64 x.left.val.kind, .int .i64 x.left.val.num, .string x.left.val.text,
 .int .i64 x.right.kind, .string x.right.name, .string x.right.key, .int .i64 x.right.val.kind, .int .i64 x.right.val.num, .string x.right.val.text]
def dp (s t:ByteArray):Bool:=s.toList==t.toList
def MI (w:World) (p:lz) (cs:List Value):Prop:=
 ∃k s l sv,p.expr = .mk k s l∧jX w l sv∧cs=[.string p.aG, .string p.to, .bool p.path, .string p.label, .string p.name, .int .i64 k, .string s,sv]
def MH (p:rU) (cs:List Value):Prop:=cs=p.cells
def ME (p:Aw) (cs:List Value):Prop:=cs=p.cells
def JZ (p:ByteArray) (cs:List Value):Prop:=cs=[.string p]
def MF (p:Int) (cs:List Value):Prop:=cs=[.int .i64 p]
abbrev KD (w:World) (xs:List lz) (v:Value):Prop:=dD w 8 (MI w) xs v
abbrev KC (w:World) (xs:List rU) (v:Value):Prop:=dD w 6 MH xs v
abbrev KB (w:World) (xs:List Aw) (v:Value):Prop:=dD w 13 ME xs v
abbrev lJ (w:World) (xs:List ByteArray) (v:Value):Prop:=dD w 1 JZ xs v
abbrev PX (w:World) (xs:List Int) (v:Value):Prop:=dD w 1 MF xs v
def Rm (w:World) (q:BS) (cs:List Value):Prop:=
 ∃v1 v2 v3,KD w q.pt v1∧KB w q.conds v2∧KC w q.ret v3∧cs=[v1,v2,v3, .int .i64 q.range, .int .i64 q.GA]
def lx (c:Int):Bool:=decide (97<=c)&&decide (c<=122)
def iy (c:Int):Bool:=lx c||c==95||(decide (48<=c)&&decide (c<=57))
def gp (s:ByteArray):Bool:=s.data.toList.all (fun b=>iy b.toNat)&&decide (1<=s.size)&&decide (s.size<=20)
theorem gr (f:UInt8->Bool) (s:ByteArray):s.data.toList.all f=true ↔ ∀j (h:j<s.size),f s[j]=true:=by
 rw [List.all_eq_true]
 constructor
 ·intro h j hj;exact h _ (by simp [ByteArray.getElem_eq_getElem_data])
 ·intro h x hx;obtain ⟨j,hj,rfl⟩:=List.getElem_of_mem hx;exact h j (by simpa using hj)
theorem yj {s:ByteArray} {j:Nat} (h:j<s.size) (hf:iy s[j].toNat=false):gp s=false:=by
 have:s.data.toList.all (fun b=>iy b.toNat)=false:=by
  rw [<-Bool.not_eq_true,gr];exact fun hh=>by rw [hh j h] at hf;cases hf
 simp [gp,this]
theorem DK {s:ByteArray} (h: ∀j (h:j<s.size),iy s[j].toNat=true):gp s=(decide (1<=s.size)&&decide (s.size<=20)):=by
 rw [gp,(gr _ s).2 h,Bool.true_and]
theorem gT (s:ByteArray):s.toList.isEmpty=decide (s.size=0):=by
 rw [ByteArray.toList_eq];obtain ⟨⟨l⟩⟩:=s;cases l<;>simp [ByteArray.size]
def words:List ByteArray:=[⟨#[97,115]⟩,⟨#[109,97,116,99,104]⟩,⟨#[119,104,101,114,101]⟩,⟨#[97,110,100]⟩,⟨#[114,101,116,117,114,110]⟩,⟨#[114,97,110,103,101]⟩,⟨#[115,108,105,100,101]⟩]
theorem z6 {α:Type} {W:World} {n:Nat} {C:Array Value} {t:TypeId} {fz:Nat×Nat} (h:W.heap[n]? = some (.cells C t fz)) {sz:Nat} {rd:α->List Value->Prop} {xs:List α}
  (f:α->List Value) (hf: ∀x,x∈xs->rd x (f x)) (hsz: ∀x,x∈xs->(f x).length=sz) (hC:C.toList=xs.flatMap f) {m cap:Nat} (hm:m=xs.length) (hc:m<=cap) (hc2:cap<=maxLen) :
  dD W sz rd xs (.slice (some ⟨n,0,none⟩) m cap):=by
 subst hm;refine .inr ⟨n,0,cap,rfl,hc,hc2,fun i x hx=>⟨f x,hf x (TI hx), ?_⟩⟩
 have key: ∀(l:List α) (i:Nat) (x:α),(∀x,x∈l->(f x).length=sz)->l[i]? = some x-> ∀j v,(f x)[j]? = some v->(l.flatMap f)[i * sz+j]? = some v:=by
  intro l
  induction l with
  | nil=>intro i x _ h;simp at h
  | cons y l ih=>
   intro i x hl hx j v hj;rw [List.flatMap_cons]
   cases i with
   | zero=>
    simp at hx;subst hx;rw [List.getElem?_append_left (by rw [Nat.zero_mul,Nat.zero_add];exact (List.getElem?_eq_some_iff.1 hj).1)];simpa using hj
   | succ i=>
    have hy:=hl y (by simp);rw [List.getElem?_append_right (by rw [hy,Nat.succ_mul];omega),hy,show (i+1) * sz+j - sz=i * sz+j by rw [Nat.succ_mul];omega];exact ih i x (fun x hx=>hl x (by simp [hx])) (by simpa using hx) j v hj
 have hcell: ∀j v,(f x)[j]? = some v->W.cell? ⟨n,0+i * sz+j,none⟩=some v:=by
  intro j v hj
  have:=key xs i x hsz hx j v hj
  rw [<-hC] at this;simp only [World.cell?,h];simpa using this
 generalize 0+i * sz=o at hcell;clear hf hsz hC key hx;generalize f x=vs at hcell
 induction vs generalizing o with
 | nil=>trivial
 | cons y vs ih=>exact ⟨by simpa using hcell 0 y rfl,ih (o+1) (fun j v hj=>by rw [show o+1+j=o+(j+1) by omega];exact hcell (j+1) v (by simpa using hj))⟩
theorem dJ (W:World) (o:Obj):(W.alloc o).heap[W.heap.size]? = some o:=by
 show (W.heap.push o)[W.heap.size]? = some o;simp
def qu (s:ByteArray):Int:=if h:0<s.size then (s[0]'h).toNat else 0
def cJ (s:ByteArray):Bool:=gp s&&lx (qu s) && !words.any (fun x=>dp s x)
theorem Ao {s:ByteArray} (h:gp s=true):0<s.size∧s.size<=20:=by
 simp only [gp,Bool.and_eq_true,decide_eq_true_eq] at h;omega
def fy (n:Nat):Bool:= !(decide (n<32)||decide (126<n)||n==34||n==92)
def mb (s:ByteArray):Bool:=s.data.toList.all (fun b=>fy b.toNat)
def kz (s:ByteArray):Bool:=decide (s.size=0)
def kX:Int:=1099511627776
def bD (v:yL):Bool:=if v.kind==1 then kz v.text&&decide (-kX<=v.num)&&decide (v.num<=kX) else
 if v.kind==2 then v.num==0&&decide (v.text.size<=40)&&mb v.text else false
def bp (k:Int) (s:ByteArray) (n:Nat):Bool:=if k==1 then decide (n=0)&&cJ s else
 if k==2||k==3 then decide (1<n)&&kz s else
 if k==4||k==5||k==6 then decide (n=1)&&kz s else false
theorem Dl {s:ByteArray} {j:Nat} (h:j<s.size) (hf:fy s[j].toNat=false):mb s=false:=by
 rw [mb, <- Bool.not_eq_true,gr];exact fun hh=>by rw [hh j h] at hf;cases hf
theorem zS {s:ByteArray} (h: ∀j (h:j<s.size),fy s[j].toNat=true):mb s=true:=by
 rw [mb,gr (fun b=>fy b.toNat)];exact h
theorem uZ (n:Nat):(n<32∧fy n=false)∨(32<=n∧126<n∧fy n=false)∨(32<=n∧n<=126∧((n:Int)==34)=true∧fy n=false) ∨
  (32<=n∧n<=126∧((n:Int)==34)=false∧((n:Int)==92)=true∧fy n=false)∨(32<=n∧n<=126∧((n:Int)==34)=false∧((n:Int)==92)=false∧fy n=true):=by
 unfold fy
 by_cases h1:n<32
 ·exact .inl ⟨h1,by simp [h1]⟩
 ·by_cases h2:126<n
  ·exact .inr (.inl ⟨by omega,h2,by simp [h2]⟩)
  ·by_cases h3:n=34
   ·subst h3;exact .inr (.inr (.inl ⟨by omega,by omega,rfl,rfl⟩))
   ·by_cases h4:n=92
    ·subst h4;exact .inr (.inr (.inr (.inl ⟨by omega,by omega,rfl,rfl,rfl⟩)))
    ·exact .inr (.inr (.inr (.inr ⟨by omega,by omega,by simp;omega,by simp;omega,by simp [h1,h2,h3,h4]⟩)))
def sc (s:ByteArray):Prop:=s.size<=140737488355328
theorem sc.len {s:ByteArray} (h:sc s):s.size<=maxLen:=by unfold sc at h;unfold maxLen;omega
mutual
def Ex.ok:Ex->Prop
 | .mk _ s l=>sc s∧oR l
def oR:List Ex->Prop
 | []=>True
 | x :: xs=>x.ok∧oR xs
end
theorem nM: ∀ {l:List Ex},oR l ↔ ∀x,x∈l->x.ok
 | []=>by simp [oR]
 | x :: xs=>by simp [oR,nM (l:=xs)]
def yL.ok (v:yL):Prop:=sc v.text
def rU.ok (o:rU):Prop:=sc o.name∧sc o.key∧o.val.ok
def Aw.ok (c:Aw):Prop:=c.left.ok∧c.right.ok
def lz.ok (p:lz):Prop:=sc p.aG∧sc p.to∧sc p.label∧sc p.name∧p.expr.ok
def BS.ok (q:BS):Prop:=(∀p,p∈q.pt->p.ok)∧(∀c,c∈q.conds->c.ok)∧(∀o,o∈q.ret->o.ok)
def BS.small (q:BS):Prop:=q.pt.length<=140737488355328∧q.conds.length<=140737488355328∧q.ret.length<=140737488355328
mutual
def au:Ex->List Ex
 | .mk k s l=> .mk k s l :: bL l
def bL:List Ex->List Ex
 | []=>[]
 | x :: xs=>au x++bL xs
end
theorem bS: ∀l:List Ex,bL l=l.flatMap au
 | []=>rfl
 | x :: xs=>by rw [bL,bS xs,List.flatMap_cons]
theorem fZ (a b:List Ex):bL (a++b)=bL a++bL b:=by simp [bS]
theorem nN (l:List Ex) (k:Nat):(bL (l.take k)).length<=(bL l).length:=by
 have:=congrArg List.length (fZ (l.take k) (l.drop k))
 rw [List.take_append_drop,List.length_append] at this;omega
theorem lY {l:List Ex} {k:Nat} (h:k<l.length):bL (l.take (k+1))=bL (l.take k)++au l[k]:=by
 rw [List.take_succ_eq_append_getElem h,fZ];simp [bL]
def Ex.part:Ex->Bool| .mk k s l=>bp k s l.length
def aB (x:Ex):Bool:=decide ((au x).length<=24)&&(au x).all Ex.part
def Ex.sig:Ex->Int×ByteArray×Nat
 | .mk k s l=>(k,s,l.length)
def o8 (s:Int×ByteArray×Nat):Bool:=bp s.1 s.2.1 s.2.2
theorem F2 (x:Ex):x.part=o8 x.sig:=by obtain ⟨k,s,l⟩:=x;rfl
theorem oP (x:Ex):aB x=(decide (((au x).map Ex.sig).length<=24)&&((au x).map Ex.sig).all o8):=by
 rw [aB,List.length_map,List.all_map]
 congr 2
 funext y
 exact F2 y
structure XC where
 kind:Int
 label:ByteArray
 ptr:Option Addr
 len:Nat
 cap:Nat
 hl:label.size<=maxLen
 hn:len<=maxLen
def XC.val (x:XC):Value:= .agg #[.int .i64 x.kind, .string x.label, .slice x.ptr x.len x.cap]
def XC.sig (x:XC):Int×ByteArray×Nat:=(x.kind,x.label,x.len)
def yL.none (v:yL):Bool:=v.kind==0&&v.num==0&&kz v.text
def qU (o:rU):Bool:=if o.kind==1 then cJ o.name&&kz o.key&&o.val.none else
 if o.kind==2 then cJ o.name&&cJ o.key&&o.val.none else
 if o.kind==3 then bD o.val&&kz o.name&&kz o.key else false
def F3 (p:lz):Bool:=cJ p.aG&&cJ p.to&&if p.path then kz p.label&&kz p.name&&aB p.expr else
 cJ p.label&&(kz p.name||cJ p.name)&&zi p.expr (.mk 0 ⟨#[]⟩ [])
def EG (n a b:Int):Bool:=decide (a<=n)&&decide (n<=b)
def EO (c:Aw):Bool:=EG c.op 1 6&&qU c.left&&qU c.right
def GU (o:rU):Bool:=o.kind !=3&&qU o
def Gi (q:BS):Bool:=EG q.pt.length 1 4&&decide (q.conds.length<=6)&&EG q.ret.length 1 4&&EG q.range 1 1048576&&EG q.GA 1 1048576 &&
 q.pt.all F3&&q.conds.all EO&&q.ret.all GU
mutual
def SD:Ex->Nat->Nat
 | .mk _ _ l,deep=>if 60<deep then 401 else Ry l (deep+1) 1
def Ry:List Ex->Nat->Nat->Nat
 | [],_,n=>n
 | x :: xs,deep,n=>if n<=400 then Ry xs deep (n+SD x deep) else n
end
theorem ic {w:World} {b:Nat}: ∀ {vs:List Value} {o:Nat},cq w b o vs-> ∀j v,vs[j]? = some v->w.cell? ⟨b,o+j,none⟩=some v
 | [],_,_,j,v,h=>by simp at h
 | x :: vs,o,hc,j,v,h=>by
  cases j with
  | zero=>simp at h;subst h;simpa using hc.1
  | succ j=>
   have:=ic hc.2 j v (by simpa using h)
   rw [show o+(j+1)=o+1+j by omega];exact this
theorem qg {w:World} {k:Nat} {C:Array Value} {T:TypeId} {fz:Nat×Nat} (h:w.heap[k]? = some (.cells C T fz)) (o:Nat):w.cell? ⟨k,o,none⟩=C[o]? :=by simp [World.cell?,h]
theorem Dv {w:World} {xs:List ByteArray} {p:Option Addr} {n cap:Nat} (h:lJ w xs (.slice p n cap)) {k:Nat} (hk:k<xs.length) :
  ∃b o,p=some ⟨b,o,none⟩∧w.cell? ⟨b,o+k,none⟩=some (.string xs[k]):=by
 obtain ⟨b,o,cs,hp,hr,hc⟩:=dD.at h hk;subst hr;rw [Nat.mul_one] at hc;replace hc:=ic hc;exact ⟨b,o,hp,by simpa using hc 0 _ rfl⟩
end
end Go.Proofs.YtlhhccmopfamhaaGreatDoor
