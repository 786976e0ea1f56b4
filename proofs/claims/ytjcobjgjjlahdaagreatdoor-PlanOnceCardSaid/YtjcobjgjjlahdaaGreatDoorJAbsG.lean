/- texts of one claim, one behind the other. -/
import Derived.Test.YtjcobjgjjlahdaaGreatDoorJFen
import Derived.Laws.CopyRow
import Derived.Laws.BytesArg
set_option linter.unusedSimpArgs false
set_option linter.unusedVariables false
set_option maxRecDepth 100000
set_option maxHeartbeats 16000000
open Array renaming getElem?_eq_getElem -> Ro, getElem?_extract -> RQ, getElem?_eq_some_iff -> Q8, getElem?_modify -> R7, getElem?_map -> R8, mem_of_getElem? -> R9, getElem?_append_left -> RL, getElem?_append_right -> Sa
open Bool renaming and_eq_true -> RY
open List renaming length_eq_one_iff -> R0, drop_eq_nil_of_le -> R3, headD_cons -> R4, getElem?_eq_none -> Ru, length_map -> R5, getD_eq_getElem?_getD -> R6, getElem?_eq_getElem -> Rp, getElem?_eq_some_iff -> Ra, getElem?_map -> Rs, eq_nil_of_length_eq_zero -> RM, getElem?_set_self -> Rx, getElem?_set_ne -> Rw, mem_of_getElem? -> RK, getElem?_toArray -> Rr, getElem?_append_left -> Rb, getElem?_append_right -> RF, mem_cons_of_mem -> Sb
open Nat renaming lt_or_ge -> Rc
open Option renaming map_some -> RI
open Option.some renaming injEq -> Rl
open Prod.mk renaming injEq -> Rm
namespace Go.Proofs.YtjcobjgjjlahdaaGreatDoor
open Go.RowKit
section
section
variable {D:Nat->Prop} {nu:Nat->Nat->Value} {o:List (Option aa)} {w:World} {P:Program}
inductive FK where
 | b|i|s
def kv:FK->Value->Value->Option Bool
 | .b, .bool x, .bool y=>some (x==y)
 | .i, .int k x, .int k' y=>if k=k' then some (x==y) else none
 | .s, .string x, .string y=>some (x.toList==y.toList)
 | _,_,_=>none
def pM:List FK->List Value->List Value->Option Bool
 | [],[],[]=>some true
 | k :: ks,x :: xs,y :: ys=>match kv k x y,pM ks xs ys with
  | some a,some b=>some (a&&b)
  | _,_=>none
 | _,_,_=>none
def F9 (P:Program) (g:TypeId->Option (List FK)):List Field->Nat->Option (List FK)
 | [],_=>some []
 | f :: fs,off=>if f.name = "_" then none else match g f.type with
  | some ks=>if f.offset=off∧bG P f.type=some ks.length then match F9 P g fs (off+ks.length) with
   | some r=>some (ks++r)
   | none=>none
   else none
  | none=>none
def IV (P:Program):Nat->TypeId->Option (List FK)
 | 0,_=>none
 | d+1,T=>match P.underlying T with
  | some .bool=>some [.b]
  | some (.int _)=>some [.i]
  | some .string=>some [.s]
  | some (.struct fs)=>if P.stoodInHeld T then none else F9 P (IV P d) fs.toList 0
  | _=>none
def valOf (P:Program) (T:TypeId) (xs:List Value):Value:=match P.underlying T with
 | some (.struct _)=> .agg xs.toArray
 | _=>xs.headD Go.undef
theorem tR: ∀ {ks:List FK} {xs ys:List Value} {r:Bool},pM ks xs ys=some r->xs.length=ks.length∧ys.length=ks.length
 | [],[],[],_,_=>⟨rfl,rfl⟩
 | [],[],_ :: _,_,h=>by simp [pM] at h
 | [],_ :: _,_,_,h=>by simp [pM] at h
 | _ :: _,[],_,_,h=>by simp [pM] at h
 | _ :: _,_ :: _,[],_,h=>by simp [pM] at h
 | k :: ks,x :: xs,y :: ys,r,h=>by
  simp only [pM] at h
  split at h
  ·rename_i a b e1 e2;obtain ⟨h1,h2⟩:=tR e2;simp [h1,h2]
  ·cases h
theorem sc: ∀ {ks ks':List FK} {xs ys:List Value} {r:Bool},pM (ks++ks') xs ys=some r-> ∃a b,pM ks (xs.take ks.length) (ys.take ks.length)=some a∧pM ks' (xs.drop ks.length) (ys.drop ks.length)=some b∧r=(a&&b)
 | [],ks',xs,ys,r,h=>⟨true,r,by simp [pM],by simpa using h,by simp⟩
 | k :: ks,ks',[],_,_,h=>by simp [pM] at h
 | k :: ks,ks',_ :: _,[],_,h=>by simp [pM] at h
 | k :: ks,ks',x :: xs,y :: ys,r,h=>by
  simp only [List.cons_append,pM] at h
  split at h
  ·rename_i a b e1 e2;cases h;obtain ⟨c,d,h1,h2,h3⟩:=sc e2;refine ⟨a&&c,d, ?_,by simpa using h2,by rw [h3,Bool.and_assoc]⟩;simp [pM,e1,h1]
  ·cases h
theorem xj {d:Nat} {T:TypeId} {ks:List FK} (h:IV P d T=some ks) (hs:bG P T=some ks.length) {xs:List Value} {off:Nat} (hl:off+ks.length<=xs.length) :
  (part T xs.toArray off).run P w = .ok (valOf P T ((xs.drop off).take ks.length)) w:=by
 cases d with
 | zero=>simp [IV] at h
 | succ d=>
  simp only [IV] at h
  have one: ∀dd,P.underlying T=some dd->c7 P T=some false->ks.length=1->valOf P T ((xs.drop off).take ks.length)=((xs.drop off).take ks.length).headD Go.undef->(part T xs.toArray off).run P w = .ok (valOf P T ((xs.drop off).take ks.length)) w:=by
   intro dd hu ha h1 hv;rw [hv,h1]
   have hlt:off<xs.length:=by omega
   have hx:xs.toArray[off]? = some xs[off]:=by simp [hlt]
   have e:((xs.drop off).take 1).headD Go.undef=xs[off]:=by rw [List.drop_eq_getElem_cons hlt];rfl
   rw [e];simp [part,ft ha,hlt]
  split at h
  ·rename_i hu;cases h;exact one _ hu (by simp [c7,hu]) rfl (by simp [valOf,hu])
  ·rename_i hu;cases h;exact one _ hu (by simp [c7,hu]) rfl (by simp [valOf,hu])
  ·rename_i hu;cases h;exact one _ hu (by simp [c7,hu]) rfl (by simp [valOf,hu])
  ·rename_i fs hu
   have ha:c7 P T=some true:=by simp [c7,hu]
   simp only [valOf,hu];simp only [part,Sem.run_bind,ft ha,Result.andThen_ok,if_true,run_sizeOf hs,Sem.run_pure]
   congr 2
   apply Array.ext'
   simp [List.take_drop]
  ·cases h
theorem tS {k:FK} {xs ys:List Value} {r:Bool} (h:pM [k] xs ys=some r): ∃x y,xs=[x]∧ys=[y]∧kv k x y=some r:=by
 obtain ⟨l1,l2⟩:=tR h;obtain ⟨x,rfl⟩:=R0.1 l1;obtain ⟨y,rfl⟩:=R0.1 l2;refine ⟨x,y,rfl,rfl, ?_⟩;simp only [pM] at h
 split at h
 ·rename_i a b e1 e2;cases e2;cases h;rw [e1,Bool.and_true]
 ·cases h
theorem Oy {x y:Value} {r:Bool} (h:kv .b x y=some r): ∃a b,x = .bool a∧y = .bool b∧r=(a==b):=by
 cases x<;>cases y<;>simp [kv] at h;exact ⟨_,_,rfl,rfl,h.symm⟩
theorem OA {x y:Value} {r:Bool} (h:kv .s x y=some r): ∃a b,x = .string a∧y = .string b∧r=(a.toList==b.toList):=by
 cases x<;>cases y<;>simp [kv] at h;exact ⟨_,_,rfl,rfl,by simpa using h.symm⟩
theorem Oz {x y:Value} {r:Bool} (h:kv .i x y=some r): ∃k a b,x = .int k a∧y = .int k b∧r=(a==b):=by
 cases x<;>cases y<;>simp [kv] at h;obtain ⟨rfl,h⟩:=h;exact ⟨_,_,_,rfl,rfl,h.symm⟩
def DE (P:Program) (d:Nat):Prop:= ∀(T:TypeId) (ks:List FK),IV P d T=some ks-> ∀(d':Nat),d<=d'-> ∀(xs ys:List Value) (r:Bool) (w:World),pM ks xs ys=some r->(Op.equalIn d' T (valOf P T xs) (valOf P T ys)).run P w = .ok r w
theorem ti {d:Nat} (ih:DE P d): ∀(fs:List Field) (off:Nat) (ks:List FK),F9 P (IV P d) fs off=some ks-> ∀(d':Nat),d<=d'-> ∀(xs ys:List Value) (r:Bool) (w:World),pM ks (xs.drop off) (ys.drop off)=some r ->
  off+ks.length=xs.length->off+ks.length=ys.length->(Op.eqFields d' xs.toArray ys.toArray fs).run P w = .ok r w
 | [],off,ks,h,d',hd,xs,ys,r,w,he,hx,hy=>by
  simp only [F9,Rl] at h;subst h;have e1:xs.drop off=[]:=R3 (by simp at hx;omega);have e2:ys.drop off=[]:=R3 (by simp at hy;omega);rw [e1,e2] at he;simp only [pM,Rl] at he;subst he;simp [Op.eqFields]
 | f :: fs,off,ks,h,d',hd,xs,ys,r,w,he,hx,hy=>by
  simp only [F9] at h
  split at h
  ·cases h
  ·rename_i hname
   split at h
   ·rename_i k1 e1
    split at h
    ·rename_i hc
     split at h
     ·rename_i k2 e2;cases h;obtain ⟨rfl,hsz⟩:=hc;obtain ⟨a,b,h1,h2,h3⟩:=sc he;rw [List.drop_drop,List.drop_drop] at h2;have hrest:=ti ih fs (f.offset+k1.length) k2 e2 d' hd xs ys b w (by simpa [Nat.add_comm] using h2) (by simp at hx;omega) (by simp at hy;omega);have hhead:=ih f.type k1 e1 d' hd _ _ a w h1
      have hl1:f.offset+k1.length<=xs.length:=by simp at hx;omega
      have hl2:f.offset+k1.length<=ys.length:=by simp at hy;omega
      simp only [Op.eqFields,ne_eq,hname,not_false_eq_true,if_true,Sem.run_bind,xj e1 hsz hl1,xj e1 hsz hl2,Result.andThen_ok,hhead];subst h3
      cases a
      ·simp
      ·simpa using hrest
     ·cases h
    ·cases h
   ·cases h
theorem xG: ∀(d:Nat),DE P d
 | 0=>fun T ks h=>by simp [IV] at h
 | d+1=>fun T ks h d' hd xs ys r w he=>by
  obtain ⟨d',rfl⟩: ∃m,d'=m+1:=⟨d' - 1,by omega⟩;simp only [IV] at h
  split at h
  ·rename_i hu;cases h;obtain ⟨x,y,rfl,rfl,hk⟩:=tS he;obtain ⟨a,b,rfl,rfl,rfl⟩:=Oy hk;simp only [valOf,hu,R4];exact run_equalIn_bool' w d' T a b hu
  ·rename_i k hu;cases h;obtain ⟨x,y,rfl,rfl,hk⟩:=tS he;obtain ⟨k1,a,b,rfl,rfl,rfl⟩:=Oz hk;simp only [valOf,hu,R4];exact run_equalIn_int w d' T k1 k a b hu
  ·rename_i hu;cases h;obtain ⟨x,y,rfl,rfl,hk⟩:=tS he;obtain ⟨a,b,rfl,rfl,rfl⟩:=OA hk;simp only [valOf,hu,R4];exact run_equalIn_string w d' T a b hu
  ·rename_i fs hu
   split at h
   ·cases h
   ·rename_i hs
    have hfo:P.fieldsOf T=fs:=by simp [Program.fieldsOf,hu]
    simp only [valOf,hu];rw [run_equalIn_struct w d' T _ _ (by rw [hfo];exact hu) (by simpa using hs),hfo];obtain ⟨l1,l2⟩:=tR he;exact ti (xG d) fs.toList 0 ks h d' (by omega) xs ys r w (by simpa using he) (by omega) (by omega)
  ·cases h
def jY (op:BinOp) (k:IntKind) (a b:Int):Option (Prop×AV):=match op with
 | .shl=>some (0<=b, .v (.int k (k.wrap (a * 2 ^ min b.toNat k.bits))))
 | .shr=>some (0<=b, .v (.int k (a.fdiv (2 ^ min b.toNat k.bits))))
 | _=>none
def EI (k:IntKind) (a b:Int):Int:=k.wrap (BitVec.ofInt k.bits a &&& BitVec.ofInt k.bits b).toNat
def Ni (k:IntKind) (a b:Int):Int:=k.wrap (BitVec.ofInt k.bits a ||| BitVec.ofInt k.bits b).toNat
def LQ (k:IntKind) (a b:Int):Int:=k.wrap (BitVec.ofInt k.bits a ^^^ BitVec.ofInt k.bits b).toNat
def oV (k:IntKind) (a b:Int):Int:=k.wrap (BitVec.ofInt k.bits a &&& ~~~ BitVec.ofInt k.bits b).toNat
def GJ (op:BinOp) (k:IntKind) (a b:Int):Option (Prop×AV):=match op with
 | .add=>some (True, .v (.int k (k.wrap (a+b))))
 | .sub=>some (True, .v (.int k (k.wrap (a - b))))
 | .mul=>some (True, .v (.int k (k.wrap (a * b))))
 | .quo=>some (b≠0, .v (.int k (k.wrap (a.tdiv b))))
 | .rem=>some (b≠0, .v (.int k (a.tmod b)))
 | .and=>some (True, .v (.int k (EI k a b)))
 | .or=>some (True, .v (.int k (Ni k a b)))
 | .xor=>some (True, .v (.int k (LQ k a b)))
 | .andNot=>some (True, .v (.int k (oV k a b)))
 | .eql=>some (True, .v (.bool (a==b)))
 | .neq=>some (True, .v (.bool (a !=b)))
 | .lss=>some (True, .v (.bool (decide (a<b))))
 | .leq=>some (True, .v (.bool (decide (a<=b))))
 | .gtr=>some (True, .v (.bool (decide (b<a))))
 | .geq=>some (True, .v (.bool (decide (b<=a))))
 | .shl=>jY .shl k a b
 | .shr=>jY .shr k a b
def GL (op:BinOp) (a b:ByteArray):Option (Prop×AV):=match op with
 | .add=>some (a.size+b.size<=4611686018427387904, .v (.string (a++b)))
 | .eql=>some (True, .v (.bool (a.toList==b.toList)))
 | .neq=>some (True, .v (.bool (!(a.toList==b.toList))))
 | .lss=>some (True, .v (.bool (Op.bytesLess a.toList b.toList)))
 | .leq=>some (True, .v (.bool (Op.bytesLess a.toList b.toList||a.toList==b.toList)))
 | .gtr=>some (True, .v (.bool (!(Op.bytesLess a.toList b.toList||a.toList==b.toList))))
 | .geq=>some (True, .v (.bool (!(Op.bytesLess a.toList b.toList))))
 | _=>none
def Kw (P:Program) (T:TypeId):Option (List FK):=if P.eqGuardType P.depth T then none else match P.underlying T with
 | some (.struct _)=>IV P 12 T
 | _=>none
def oD:List FK->List AV->List AV->Option Bool
 | [],[],[]=>some true
 | k :: ks, .v x :: xs, .v y :: ys=>match kv k x y,oD ks xs ys with
  | some a,some b=>some (a&&b)
  | _,_=>none
 | _,_,_=>none
theorem rU: ∀ {ks:List FK} {cs ds:List AV} {r:Bool},oD ks cs ds=some r-> ∃xs ys,cs=xs.map AV.v∧ds=ys.map AV.v∧pM ks xs ys=some r
 | [],[],[],_,h=>⟨[],[],rfl,rfl,by simpa [oD,pM] using h⟩
 | [],[],_ :: _,_,h=>by simp [oD] at h
 | [],_ :: _,_,_,h=>by simp [oD] at h
 | k :: ks,cs,ds,r,h=>by
  unfold oD at h
  split at h
  ·exact absurd ‹k :: ks=[]› (by simp)
  ·rename_i k' ks' x xs y ys e;cases e
   split at h
   ·rename_i a b e1 e2;obtain ⟨xs',ys',rfl,rfl,h3⟩:=rU e2;refine ⟨x :: xs',y :: ys',rfl,rfl, ?_⟩;simp only [pM,e1,h3];exact h
   ·cases h
  ·cases h
def qe (P:Program) (T:TypeId):Bool:=match P.underlying T with
 | some (.pointer _)=>true
 | _=>false
def sw (P:Program) (T:TypeId):Bool:=match P.underlying T with
 | some (.slice _)=>true
 | _=>false
def isFun (P:Program) (T:TypeId):Bool:=match P.underlying T with
 | some (.func _ _ _)=>true
 | _=>false
def GI (P:Program) (op:BinOp) (T:TypeId):AV->AV->Option (Prop×AV)
 | .v (.int k a), .v (.int k' b)=>match op with
  | .shl=>jY .shl k a b
  | .shr=>jY .shr k a b
  | _=>if k=k' then GJ op k a b else none
 | .v (.string a), .v (.string b)=>GL op a b
 | .v (.bool a), .v (.bool b)=>match P.underlying T,op with
  | some .bool, .eql=>some (True, .v (.bool (a==b)))
  | some .bool, .neq=>some (True, .v (.bool (!(a==b))))
  | _,_=>none
 | .agg cs, .agg ds=>match Kw P T,op with
  | some ks, .eql=>(oD ks cs ds).map fun r=>(True, .v (.bool r))
  | some ks, .neq=>(oD ks cs ds).map fun r=>(True, .v (.bool (!r)))
  | _,_=>none
 | .v (.pointer none), .v (.pointer none)=>if qe P T then match op with
  | .eql=>some (True, .v (.bool true))
  | .neq=>some (True, .v (.bool false))
  | _=>none else none
 | .vp _, .v (.pointer none)=>if qe P T then match op with
  | .eql=>some (True, .v (.bool false))
  | .neq=>some (True, .v (.bool true))
  | _=>none else none
 | .ptr _ _ _ _ _, .v (.pointer none)=>if qe P T then match op with
  | .eql=>some (True, .v (.bool false))
  | .neq=>some (True, .v (.bool true))
  | _=>none else none
 | .aC _ rows _, .v (.slice none 0 0)=>if sw P T then match op with
  | .eql=>some (rows≠[], .v (.bool false))
  | .neq=>some (rows≠[], .v (.bool true))
  | _=>none else none
 | .v (.slice none 0 0), .v (.slice none 0 0)=>if sw P T then match op with
  | .eql=>some (True, .v (.bool true))
  | .neq=>some (True, .v (.bool false))
  | _=>none else none
 | .fn _ _ _, .v .nilFunc=>if isFun P T then match op with
  | .eql=>some (True, .v (.bool false))
  | .neq=>some (True, .v (.bool true))
  | _=>none else none
 | _,_=>none
theorem G7 {op:BinOp} {T:TypeId} {k:IntKind} {a b:Int} {p:Prop} {r:AV} (h:GJ op k a b=some (p,r)) (hp:p): ∃v,(binOp op T (.int k a) (.int k b)).run P w = .ok v w∧r = .v v:=by
 cases op<;>simp only [GJ,jY,EI,Ni,LQ,oV,Rl,Rm] at h<;>obtain ⟨rfl,rfl⟩:=h<;>refine ⟨_, ?_,rfl⟩ <;>
  simp [binOp,Op.intArith,Op.intDiv,Op.intBits,Op.intCmp,Op.shift]<;>first|(intro h;exact absurd h hp)|omega
theorem RA.M3 {a:AV} {x y:Value} (h:RA D nu o w a y) (e:a = .v x):y=x:=by subst e;cases h;rfl
theorem RA.cj {x y:Value} (h:RA D nu o w (.v x) y):y=x:=by cases h;rfl
theorem vH {xs:List Value} {x:Value} (h:RA D nu o w (.agg (xs.map AV.v)) x):x = .agg xs.toArray:=by
 cases h with
 | agg _ ys h1 h2 h3=>
  congr 1
  apply Array.ext
  ·simpa using h1.symm
  ·intro i q1 q2
   have e1:(xs.map AV.v)[i]? = some (.v xs[i]):=by simp at q2;simp [q2]
   have:=(h2 i _ _ e1 (Ro q1)).cj
   simp [this]
theorem F6 {op:BinOp} {T:TypeId} {a b:ByteArray} {p:Prop} {r:AV} (h:GL op a b=some (p,r)) (hp:p): ∃v,(binOp op T (.string a) (.string b)).run P w = .ok v w∧r = .v v:=by
 cases op<;>simp only [GL,Rl,Rm,reduceCtorEq] at h<;>obtain ⟨rfl,rfl⟩:=h<;>refine ⟨_, ?_,rfl⟩ <;>
  simp [binOp,Op.stringOp]
 omega
theorem j9 {op:BinOp} {T:TypeId} {X Y:Operand} {x y:Value} (h: ∀xs ys, ¬(x = .agg xs∧y = .agg ys)) (h2:x ≠ .nilIface):(eqGuard op T X Y x y).run P w = .ok () w:=by
 unfold eqGuard
 cases op<;>first
  | rfl
  | (cases x<;>first
    | rfl
    | exact absurd rfl h2
    | (cases y<;>first
      | rfl
      | exact absurd ⟨rfl,rfl⟩ (h _ _)))
theorem we (d:Nat) {T e:TypeId} (hu:P.underlying T=some (.pointer e)) (ad:Addr):(Op.equalIn (d+1) T (.pointer (some ad)) (.pointer none)).run P w = .ok false w:=by
 simp [Op.equalIn,run_underlying hu]
theorem wb (d:Nat) {T e:TypeId} (hu:P.underlying T=some (.pointer e)):(Op.equalIn (d+1) T (.pointer none) (.pointer none)).run P w = .ok true w:=by
 simp [Op.equalIn,run_underlying hu]
theorem pN {T:TypeId} {x y:Value} {b:Bool} (hb:binOp .eql T x y=(do pure (.bool (<-Op.equal T x y)))) (h:(Op.equalIn 10000 T x y).run P w = .ok b w):(binOp .eql T x y).run P w = .ok (.bool b) w:=by
 rw [hb];simp only [Op.equal,Op.maxDepth,Sem.run_bind,h,Result.andThen_ok,Sem.run_pure]
theorem qp {T:TypeId} {x y:Value} {b:Bool} (hb:binOp .neq T x y=(do pure (.bool (!(<-Op.equal T x y))))) (h:(Op.equalIn 10000 T x y).run P w = .ok b w):(binOp .neq T x y).run P w = .ok (.bool (!b)) w:=by
 rw [hb];simp only [Op.equal,Op.maxDepth,Sem.run_bind,h,Result.andThen_ok,Sem.run_pure]
theorem sX {a:AV} {x:Value} (hr:RA D nu o w a x) (h:(∃cs,a = .vp cs)∨ ∃i l z r f,a = .ptr i l z r f): ∃ad,x = .pointer (some ad):=by
 rcases h with ⟨cs,rfl⟩|⟨i,l,z,r,f,rfl⟩
 ·cases hr;exact ⟨_,rfl⟩
 ·cases hr;exact ⟨_,rfl⟩
theorem oX {T:TypeId} {ad:Addr} (hT:qe P T=true):(binOp .eql T (.pointer (some ad)) (.pointer none)).run P w = .ok (.bool false) w∧(binOp .neq T (.pointer (some ad)) (.pointer none)).run P w = .ok (.bool true) w:=by
 unfold qe at hT
 split at hT
 ·rename_i e hu;exact ⟨pN rfl (we 9999 hu ad),qp rfl (we 9999 hu ad)⟩
 ·cases hT
theorem Ak (d:Nat) {T e:TypeId} (hu:P.underlying T=some (.slice e)) (a:Option Addr) (n c:Nat):(Op.equalIn (d+1) T (.slice a n c) (.slice none 0 0)).run P w = .ok a.isNone w:=by
 cases a<;>simp [Op.equalIn,run_underlying hu]
theorem jK {T:TypeId} {a:Option Addr} {n c:Nat} (hT:sw P T=true):(binOp .eql T (.slice a n c) (.slice none 0 0)).run P w = .ok (.bool a.isNone) w∧(binOp .neq T (.slice a n c) (.slice none 0 0)).run P w = .ok (.bool (!a.isNone)) w:=by
 unfold sw at hT
 split at hT
 ·rename_i e hu;exact ⟨pN rfl (Ak 9999 hu a n c),qp rfl (Ak 9999 hu a n c)⟩
 ·cases hT
theorem Aj (d:Nat) {T:TypeId} {ps rs:Array TypeId} {v:Bool} (hu:P.underlying T=some (.func ps rs v)) (fn:Fn) (a b:Array Value):(Op.equalIn (d+1) T (.func fn a b) .nilFunc).run P w = .ok false w:=by
 simp [Op.equalIn,run_underlying hu]
theorem EC {T:TypeId} {fn:Fn} {a b:Array Value} (hT:isFun P T=true):(binOp .eql T (.func fn a b) .nilFunc).run P w = .ok (.bool false) w∧(binOp .neq T (.func fn a b) .nilFunc).run P w = .ok (.bool true) w:=by
 unfold isFun at hT
 split at hT
 ·rename_i e hu;exact ⟨pN rfl (Aj 9999 hu fn a b),qp rfl (Aj 9999 hu fn a b)⟩
 ·cases hT
theorem Eg {op:BinOp} {T:TypeId} {a b:AV} {x y:Value} (hx:RA D nu o w a x) (hy:RA D nu o w b y) {p:Prop} {r:AV} (h:GI P op T a b=some (p,r)) (hp:p) (X Y:Operand) :
  ∃v,(binOp op T x y).run P w = .ok v w∧RA D nu o w r v∧(eqGuard op T X Y x y).run P w = .ok () w:=by
 have fin: ∀(rr:AV),(∃v,(binOp op T x y).run P w = .ok v w∧rr = .v v)->rr=r->((∀xs ys, ¬(x = .agg xs∧y = .agg ys))∧x ≠ .nilIface)-> ∃v,(binOp op T x y).run P w = .ok v w∧RA D nu o w r v∧(eqGuard op T X Y x y).run P w = .ok () w:=by
  rintro rr ⟨v,h1,h2⟩ h3 ⟨h4,h5⟩;subst h3;subst h2;exact ⟨v,h1, .v v,j9 h4 h5⟩
 unfold GI at h
 split at h
 ·obtain rfl:=hx.cj;obtain rfl:=hy.cj;refine fin r ?_ rfl ⟨fun xs ys e=>(by cases e.1),fun e=>by cases e⟩
  split at h
  ·simp only [jY,Rl,Rm] at h;obtain ⟨rfl,rfl⟩:=h;exact ⟨_,by simp [binOp,Op.shift];omega,rfl⟩
  ·simp only [jY,Rl,Rm] at h;obtain ⟨rfl,rfl⟩:=h;exact ⟨_,by simp [binOp,Op.shift];omega,rfl⟩
  ·split at h
   ·rename_i hk;subst hk;exact G7 h hp
   ·cases h
 ·obtain rfl:=hx.cj;obtain rfl:=hy.cj;exact fin r (F6 h hp) rfl ⟨fun xs ys e=>(by cases e.1),fun e=>by cases e⟩
 ·obtain rfl:=hx.cj;obtain rfl:=hy.cj;refine fin r ?_ rfl ⟨fun xs ys e=>(by cases e.1),fun e=>by cases e⟩
  split at h
  ·rename_i hu;simp only [Rl,Rm] at h;obtain ⟨rfl,rfl⟩:=h;exact ⟨_,pN rfl (run_equalIn_bool' w 9999 T _ _ hu),rfl⟩
  ·rename_i hu;simp only [Rl,Rm] at h;obtain ⟨rfl,rfl⟩:=h;exact ⟨_,qp rfl (run_equalIn_bool' w 9999 T _ _ hu),rfl⟩
  ·cases h
 ·rename_i cs ds
  have key: ∀ks rr,Kw P T=some ks->oD ks cs ds=some rr-> ∃xs ys,x = .agg xs∧y = .agg ys∧P.eqGuardType P.depth T=false∧(Op.equalIn 10000 T (.agg xs) (.agg ys)).run P w = .ok rr w:=by
   intro ks rr h1 h2;unfold Kw at h1
   split at h1
   ·cases h1
   ·rename_i hg
    split at h1
    ·rename_i fs hu;obtain ⟨xs,ys,rfl,rfl,h3⟩:=rU h2;refine ⟨_,_,vH hx,vH hy,by simpa using hg, ?_⟩
     have:=xG (P:=P) 12 T ks h1 10000 (by omega) xs ys rr w h3
     simpa only [valOf,hu] using this
    ·cases h1
  split at h
  ·rename_i ks ht
   cases he:oD ks cs ds with
   | none=>rw [he] at h;cases h
   | some rr=>
    rw [he] at h;simp only [RI,Rl,Rm] at h;obtain ⟨rfl,rfl⟩:=h;obtain ⟨xs,ys,rfl,rfl,hg,hq⟩:=key ks rr ht he;exact ⟨.bool rr,by rw [run_eql_struct,hq];rfl, .v _,run_eqGuard_agg w _ T X Y xs ys hg⟩
  ·rename_i ks ht
   cases he:oD ks cs ds with
   | none=>rw [he] at h;cases h
   | some rr=>
    rw [he] at h;simp only [RI,Rl,Rm] at h;obtain ⟨rfl,rfl⟩:=h;obtain ⟨xs,ys,rfl,rfl,hg,hq⟩:=key ks rr ht he;exact ⟨.bool (!rr),by rw [run_neq_struct,hq];rfl, .v _,run_eqGuard_agg w _ T X Y xs ys hg⟩
  ·cases h
 ·obtain rfl:=hx.cj;obtain rfl:=hy.cj;refine fin r ?_ rfl ⟨fun xs ys e=>(by cases e.1),fun e=>by cases e⟩
  split at h
  ·rename_i hT;unfold qe at hT
   split at hT
   ·rename_i e hu
    split at h
    ·cases h;exact ⟨_,pN rfl (wb 9999 hu),rfl⟩
    ·cases h;exact ⟨_,qp rfl (wb 9999 hu),rfl⟩
    ·cases h
   ·cases hT
  ·cases h
 ·obtain rfl:=hy.cj;obtain ⟨ad,rfl⟩:=sX hx (.inl ⟨_,rfl⟩);refine fin r ?_ rfl ⟨fun xs ys e=>(by cases e.1),fun e=>by cases e⟩
  split at h
  ·rename_i hT
   split at h
   ·cases h;exact ⟨_,(oX hT).1,rfl⟩
   ·cases h;exact ⟨_,(oX hT).2,rfl⟩
   ·cases h
  ·cases h
 ·obtain rfl:=hy.cj;obtain ⟨ad,rfl⟩:=sX hx (.inr ⟨_,_,_,_,_,rfl⟩);refine fin r ?_ rfl ⟨fun xs ys e=>(by cases e.1),fun e=>by cases e⟩
  split at h
  ·rename_i hT
   split at h
   ·cases h;exact ⟨_,(oX hT).1,rfl⟩
   ·cases h;exact ⟨_,(oX hT).2,rfl⟩
   ·cases h
  ·cases h
 ·rename_i z rows len;obtain rfl:=hy.cj
  split at h
  ·rename_i hT
   have hne:rows≠[]-> ∃ad n c,x = .slice (some ad) n c:=fun hne=>by
    cases hx with
    | bf=>exact absurd rfl hne
    | bC=>exact absurd rfl hne
    | aC _ _ _ b off cap f=>exact ⟨_,_,_,rfl⟩
   split at h
   ·cases h;obtain ⟨ad,n,c,rfl⟩:=hne hp;exact fin _ ⟨_,(jK hT).1,rfl⟩ rfl ⟨fun xs ys e=>(by cases e.1),fun e=>by cases e⟩
   ·cases h;obtain ⟨ad,n,c,rfl⟩:=hne hp;exact fin _ ⟨_,(jK hT).2,rfl⟩ rfl ⟨fun xs ys e=>(by cases e.1),fun e=>by cases e⟩
   ·cases h
  ·cases h
 ·obtain rfl:=hx.cj;obtain rfl:=hy.cj;refine fin r ?_ rfl ⟨fun xs ys e=>(by cases e.1),fun e=>by cases e⟩
  split at h
  ·rename_i hT
   split at h
   ·cases h;exact ⟨_,(jK hT).1,rfl⟩
   ·cases h;exact ⟨_,(jK hT).2,rfl⟩
   ·cases h
  ·cases h
 ·obtain rfl:=hy.cj
  split at h
  ·rename_i hT
   cases hx with
   | fn g first caps fi ca=>
    split at h
    ·cases h;exact fin _ ⟨_,(EC hT).1,rfl⟩ rfl ⟨fun xs ys e=>(by cases e.1),fun e=>by cases e⟩
    ·cases h;exact fin _ ⟨_,(EC hT).2,rfl⟩ rfl ⟨fun xs ys e=>(by cases e.1),fun e=>by cases e⟩
    ·cases h
  ·cases h
 ·cases h
def Nd (op:UnOp):AV->Option AV
 | .v (.bool b)=>match op with
  | .not=>some (.v (.bool (!b)))
  | _=>none
 | .v (.int k n)=>match op with
  | .neg=>some (.v (.int k (k.wrap (0 - n))))
  | _=>none
 | _=>none
theorem IZ {op:UnOp} {a:AV} {x:Value} (hx:RA D nu o w a x) {r:AV} (h:Nd op a=some r): ∃v,(Op.unary op x).run P w = .ok v w∧RA D nu o w r v:=by
 unfold Nd at h
 split at h
 ·obtain rfl:=hx.cj
  split at h
  ·cases h;exact ⟨_,rfl, .v _⟩
  ·cases h
 ·obtain rfl:=hx.cj
  split at h
  ·cases h;exact ⟨_,rfl, .v _⟩
  ·cases h
 ·cases h
def vB (P:Program) (src dst:TypeId):AV->Option AV
 | .v (.int _ n)=>match P.underlying src,P.underlying dst with
  | some _,some (.int k)=>some (.v (.int k (k.wrap n)))
  | _,_=>none
 | .v (.string s)=>match P.underlying src,P.underlying dst with
  | some .string,some .string=>some (.v (.string s))
  | _,_=>none
 | _=>none
theorem sa {src dst:TypeId} {a:AV} {x:Value} (hx:RA D nu o w a x) {r:AV} (h:vB P src dst a=some r): ∃v,(convert src dst x).run P w = .ok v w∧RA D nu o w r v:=by
 unfold vB at h
 split at h
 ·obtain rfl:=hx.cj
  split at h
  ·rename_i d k h1 h2;cases h;exact ⟨_,by simp [convert,run_underlying h1,run_underlying h2,Conv.intToInt], .v _⟩
  ·cases h
 ·obtain rfl:=hx.cj
  split at h
  ·rename_i h1 h2;cases h;exact ⟨_,by simp [convert,run_underlying h1,run_underlying h2], .v _⟩
  ·cases h
 ·cases h
def bytesOf:List (List AV)->Option (List Int)
 | []=>some []
 | [.v (.int .u8 n)] :: l=>match bytesOf l with
  | some ns=>some (n :: ns)
  | none=>none
 | _=>none
theorem me: ∀ {rows:List (List AV)} {ns:List Int},bytesOf rows=some ns->rows=ns.map (fun n=>[AV.v (.int .u8 n)])
 | [],ns,h=>by cases h;rfl
 | row :: l,ns,h=>by
  unfold bytesOf at h
  split at h
  ·rename_i e;cases e
  ·rename_i n l' e;cases e
   split at h
   ·rename_i ns' e';cases h;rw [me e'];rfl
   ·cases h
  ·cases h
def tE (P:Program) (o:List (Option aa)) (src dst:TypeId) (a:AV):Option (Prop×AV):=match P.underlying src,P.underlying dst with
 | some (.slice e),some .string=>match P.underlying e,lB o 1 a with
  | some (.int .u8),some (p,rows)=>match bytesOf rows with
   | some ns=>some (p, .v (.string ⟨(ns.map (fun n=>UInt8.ofNat n.toNat)).toArray⟩))
   | none=>none
  | _,_=>none
 | _,_=>none
theorem qK: ∀(ns:List Int) (r:ByteArray),ns.foldl (fun r n=>r.push (UInt8.ofNat n.toNat)) r=⟨r.data++(ns.map (fun n=>UInt8.ofNat n.toNat)).toArray⟩
 | [],r=>by simp
 | n :: ns,r=>by
  simp only [List.foldl_cons];rw [qK ns];simp [ByteArray.push]
theorem yK {src dst:TypeId} (h:RO D nu o w) {a:AV} {x:Value} (hx:RA D nu o w a x) {p:Prop} {r:AV} (ha:tE P o src dst a=some (p,r)) (hp:p): ∃v,(convert src dst x).run P w = .ok v w∧RA D nu o w r v:=by
 unfold tE at ha
 split at ha
 ·rename_i e hs hd
  split at ha
  ·rename_i p' rows he hsrc
   split at ha
   ·rename_i ns hns;simp only [Rl,Rm] at ha;obtain ⟨rfl,rfl⟩:=ha;obtain rfl:=me hns
    rcases iu h (by decide) hx hsrc hp with ⟨rfl,h0⟩|⟨g,c,news,rfl,hL,hcell⟩
    ·obtain rfl:ns=[]:=by simpa using h0
     exact ⟨_,run_convert_bytes_nil w src e hs he 0 0 dst hd, .v _⟩
    ·have hlen:news.length=ns.length:=by have:=hL.len;simpa using this
     have hnews:news=ns.map (Value.int .u8):=by
      refine List.ext_getElem? (fun i=> ?_)
      rcases Rc i ns.length with hi|hi
      ·obtain ⟨u,h1,h2⟩:=hL.cell i 0 [.v (.int .u8 ns[i])] _ (by simp [hi]) rfl;obtain rfl:=h2.cj;simp only [Nat.mul_one,Nat.add_zero] at h1;rw [h1];simp [hi]
      ·rw [Ru (by omega),Ru (by simpa using hi)]
     subst hnews;have hl:=run_loadCells_list (P:=P) w g (ns.map (Value.int .u8)) (fun j v hj=>hcell j v hj);simp only [R5] at hl;refine ⟨_, ?_, .v _⟩;rw [run_convert_bytes_string w src dst e _ _ c hs he hd];simp only [R5];rw [run_bytesToString w g ns.length c ns hl,qK];have he0:ByteArray.empty.data = #[]:=rfl;rw [he0];simp
   ·cases ha
  ·cases ha
 ·cases ha
def Jr (s:ByteArray) (i:Nat):Nat:=(s.data.toList.getD i 0).toNat
def tG (P:Program) (T:TypeId):AV->AV->Option (Prop×AV)
 | .v (.string s), .v (.int _ i)=>match P.underlying T with
  | some .string=>some (0<=i∧i<s.size, .v (.int .u8 (Jr s i.toNat)))
  | _=>none
 | .agg cs, .v (.int _ i)=>match P.underlying T with
  | some (.array n e)=>match c7 P e,bG P e with
   | some false,some z=>match cs[i.toNat * z]? with
    | some c=>some (0<=i∧i<n,c)
    | none=>none
   | some true,some z=>some ((0<=i∧i<n)∧i.toNat * z+z<=cs.length, .agg ((cs.drop (i.toNat * z)).take z))
   | _,_=>none
  | _=>none
 | _,_=>none
theorem yZ {T:TypeId} {a i:AV} {x y:Value} (hx:RA D nu o w a x) (hy:RA D nu o w i y) {p:Prop} {r:AV} (h:tG P T a i=some (p,r)) (hp:p): ∃v,(Instr.index T x y).run P w = .ok v w∧RA D nu o w r v:=by
 unfold tG at h
 split at h
 ·rename_i s k i';obtain rfl:=hx.cj;obtain rfl:=hy.cj
  split at h
  ·rename_i hu;cases h;obtain ⟨h1,h2⟩:=hp
   have hlt:i'.toNat<s.size:=by omega
   have e:s[i'.toNat]? = some s[i'.toNat]:=by simp [hlt]
   have e2:(s.data.toList.getD i'.toNat 0)=s[i'.toNat]:=by
    have hl:i'.toNat<s.data.toList.length:=by simpa using hlt
    rw [R6,Rp hl]
    rfl
   refine ⟨_, ?_, .v _⟩;simp only [Instr.index,asIntOf,Sem.run_bind,Sem.run_pure,Result.andThen_ok,run_underlying hu,h1,if_true,e,Jr,e2]
  ·cases h
 ·rename_i cs k i';obtain rfl:=hy.cj
  split at h
  ·rename_i n e hu
   split at h
   ·rename_i z e1 e2
    split at h
    ·rename_i c hc;cases h
     cases hx with
     | agg _ xs k1 k2 k3=>
     have hlt:i'.toNat * z<xs.size:=by rw [<-k1];exact (Ra.1 hc).1
     have hx:xs[i'.toNat * z]? = some xs[i'.toNat * z]:=Ro hlt;refine ⟨xs[i'.toNat * z], ?_,k2 _ _ _ hc hx⟩;simp [Instr.index,asIntOf,run_underlying hu,hp,part,ft e1,run_sizeOf e2,hx]
    ·cases h
   ·rename_i z e1 e2;cases h;obtain ⟨hp1,hp2⟩:=hp
    cases hx with
    | agg _ xs k1 k2 k3=>
    refine ⟨.agg (xs.extract (i'.toNat * z) (i'.toNat * z+z)),by simp [Instr.index,asIntOf,run_underlying hu,hp1,part,ft e1,run_sizeOf e2], .agg _ _ (by simp;omega) (fun j c x h1 h2=> ?_) (fun j x h2=> ?_)⟩
    ·rw [List.getElem?_take] at h1;rw [RQ] at h2
     split at h1
     ·split at h2
      ·rw [List.getElem?_drop] at h1;exact k2 _ _ _ h1 h2
      ·cases h2
     ·cases h1
    ·rw [RQ] at h2
     split at h2
     ·exact k3 _ _ h2
     ·cases h2
   ·cases h
  ·cases h
 ·cases h
def l8 (i:Nat):AV->Option AV
 | .dC vs=>vs[i]?
 | _=>none
theorem tW {i:Nat} {a:AV} {x:Value} (hx:RA D nu o w a x) {r:AV} (h:l8 i a=some r): ∃v,(Instr.extract x i).run P w = .ok v w∧RA D nu o w r v:=by
 unfold l8 at h
 split at h
 ·cases hx with
  | dC _ xs h1 h2=>
   have hlt:i<xs.size:=by rw [<-h1];exact (Ra.1 h).1
   have e:xs[i]? = some xs[i]:=Ro hlt;exact ⟨xs[i],by simp [Instr.extract,e],h2 i r _ h e⟩
 ·cases h
def DS (P:Program) (T:TypeId):AV->Option AV
 | .aC _ _ len=>match P.underlying T with
  | some (.slice _)=>some (.v (.int .i64 len))
  | _=>none
 | .v (.string s)=>match P.underlying T with
  | some .string=>some (.v (.int .i64 s.size))
  | _=>none
 | .v (.slice none 0 0)=>match P.underlying T with
  | some (.slice _)=>some (.v (.int .i64 0))
  | _=>none
 | .mp rows=>match P.underlying T with
  | some (.map _ _)=>some (.v (.int .i64 rows.length))
  | _=>none
 | _=>none
def Aa (P:Program) (T:TypeId) (o:List (Option aa)):AV->Option (Prop×AV)
 | .vec id len=>match o[id]?,P.underlying T with
  | some (some ob),some (.slice _)=>some (ob.fw=true∧ob.rows.length=len, .v (.int .i64 len))
  | some (some ob),some (.map _ _)=>some (ob.fw=false∧ob.z=0∧len=0, .v (.int .i64 ob.rows.length))
  | _,_=>none
 | a=>(DS P T a).map fun r=>(True,r)
theorem E0 {T:TypeId} (ty:TypeId) {a:AV} {x:Value} (hr:RO D nu o w) (hx:RA D nu o w a x) {p:Prop} {r:AV} (h:Aa P T o a=some (p,r)) (hp:p): ∃v,(Builtin.len_ #[T] ty #[x]).run P w = .ok v w∧RA D nu o w r v:=by
 have plain: ∀a,RA D nu o w a x-> ∀r,DS P T a=some r-> ∃v,(Builtin.len_ #[T] ty #[x]).run P w = .ok v w∧RA D nu o w r v:=by
  intro a hx r h;unfold DS at h
  split at h
  ·split at h
   ·rename_i hu;cases h
    cases hx with
    | bf=>exact ⟨_,by simp [Builtin.len_,run_underlying hu,goInt], .v _⟩
    | bC=>exact ⟨_,by simp [Builtin.len_,run_underlying hu,goInt], .v _⟩
    | aC=>exact ⟨_,by simp [Builtin.len_,run_underlying hu,goInt], .v _⟩
   ·cases h
  ·obtain rfl:=hx.cj
   split at h
   ·rename_i hu;cases h;exact ⟨_,by simp [Builtin.len_,run_underlying hu,goInt], .v _⟩
   ·cases h
  ·obtain rfl:=hx.cj
   split at h
   ·rename_i hu;cases h;exact ⟨_,by simp [Builtin.len_,run_underlying hu,goInt], .v _⟩
   ·cases h
  ·split at h
   ·rename_i hu;cases h
    cases hx with
    | mp _ b es cl h1 h2 h3=>exact ⟨.int .i64 es.size,by simp [Builtin.len_,run_underlying hu,MapKept.run_getObj_map h2,goInt],by rw [h3];exact .v _⟩
   ·cases h
  ·cases h
 unfold Aa at h
 split at h
 ·rename_i id len
  split at h
  ·rename_i ob e ho hu;cases h;obtain ⟨hv,rfl⟩:=hp;cases hx;obtain ⟨xs,hown,_⟩:=hr.oW ho hv
   rcases hown.2 with ⟨e1,e2⟩|⟨g,cap,cur,e1,_⟩
   ·rw [e1];refine ⟨.int .i64 0,by simp [Builtin.len_,run_underlying hu,goInt], ?_⟩;rw [e2];exact .v _
   ·rw [e1];exact ⟨_,by simp [Builtin.len_,run_underlying hu,goInt], .v _⟩
  ·rename_i ob e1 e2 ho hu;cases h;obtain ⟨hV,hz,rfl⟩:=hp;cases hx
   rcases hr.obj id ob ho with ⟨q1,_⟩|⟨g,cur,hb⟩|⟨g,es,cl,hmp⟩
   ·rw [hV] at q1;cases q1
   ·have:=hb.z;omega
   ·rw [hmp.p9];exact ⟨.int .i64 es.size,by simp [Builtin.len_,run_underlying hu,MapKept.run_getObj_map hmp.blk,goInt],by rw [hmp.sz];exact .v _⟩
  ·cases h
 ·cases hl:DS P T a with
  | none=>rw [hl] at h;cases h
  | some r1=>
   rw [hl] at h;simp only [RI,Rl,Rm] at h;obtain ⟨-, rfl⟩:=h;exact plain a hx _ hl
end
end
section
def AS.ev (s:AS):Operand->AV
 | .tmp t=>s.t.getD t .undef
 | .const v=> .v v
 | .global g=>match sn g with
  | some (_,cs)=> .vp (cs.toList.map .v)
  | none=> .v (.pointer (some ⟨g,0,none⟩))
 | .func f=> .fn f [] []
theorem ml {D:Nat->Prop} {nu:Nat->Nat->Value} {o:List (Option aa)} {w:World} (h:RO D nu o w) (s:AS) (g:Nat):RA D nu o w (s.ev (.global g)) (.pointer (some ⟨g,0,none⟩)):=by
 rw [AS.ev]
 split
 ·rename_i T cs hg;obtain ⟨⟨_,h1⟩,h2,h3⟩:=h.gl g T cs hg;refine .vp _ g 0 (fun j=>cs.getD j Go.undef) ⟨(Q8.1 h1).1,h2,h3⟩ (fun j c hc=> ?_) (fun j c hc=> ?_) (fun j c hc=> ?_)
  all_goals
   rw [Rs,Array.getElem?_toList] at hc
   cases hx:cs[j]? with
   | none=>rw [hx] at hc;cases hc
   | some x=> ?_
   rw [hx] at hc;obtain rfl:=Option.some.inj hc
   have hx':cs.getD j Go.undef=x:=by simp [Array.getD_eq_getD_getElem?,hx]
  ·rw [hx'];simp [World.cell?,h1,hx]
  ·rw [hx'];exact .v x
  ·rw [hx'];exact B9 g T cs hg j x hx
 ·exact .v _
def AS.put (s:AS) (dst:Option Tmp) (r:AV) (o':List (Option aa)):AS:=⟨match dst with|some d=>s.t.set d r|none=>s.t,o',s.y⟩
def mW (P:Program) (ev:Operand->AV) (o:List (Option aa)):Builtin->List Operand->List TypeId->Option (Prop×AV)
 | .len,[x],[T]=>Aa P T o (ev x).st
 | .min,[x,y],_=>match ev x,ev y with
  | .v (.int k a), .v (.int _ b)=>some (True, .v (.int k (if b<a then b else a)))
  | _,_=>none
 | .max,[x,y],_=>match ev x,ev y with
  | .v (.int k a), .v (.int _ b)=>some (True, .v (.int k (if b > a then b else a)))
  | _,_=>none
 | _,_,_=>none
def vJ (P:Program) (ev:Operand->AV) (o:List (Option aa)):Op->Option (Prop×AV)
 | .move x| .assign x=>some (True,ev x)
 | .nilCheck x=>match ev x with
  | .vp cs=>some (True, .vp cs)
  | .ptr id len z row off=>some (True, .ptr id len z row off)
  | .fn g f c=>some (True, .fn g f c)
  | _=>none
 | .build T parts=>match tD P T (parts.toList.map fun p=>(p.1,ev p.2)) with
  | some r=>some (True,r)
  | none=>none
 | .load T x=>vC P T o (ev x)
 | .binOp op T x y _=>GI P op T (ev x) (ev y)
 | .unOp op _ x=>match Nd op (ev x) with
  | some r=>some (True,r)
  | none=>none
 | .convert src dst x=>match vB P src dst (ev x) with
  | some r=>some (True,r)
  | none=>none
 | .makeFunc (.func f) first caps=>some (True, .fn f (first.toList.map ev) (caps.toList.map ev))
 | .fieldAddr T x f=>match jl P T f (ev x) with
  | some r=>some (True,r)
  | none=>none
 | .field T x f=>tF P T f (ev x)
 | .indexAddr T x i=>jm P T o (ev x).st (ev i)
 | .index T x i=>tG P T (ev x) (ev i)
 | .lookup T m k ok=>vD P T o (ev m) (ev k) ok
 | .extract x i=>match l8 i (ev x) with
  | some r=>some (True,r)
  | none=>none
 | .call c=>match c.callee with
  | .builtin b=>mW P ev o b c.args.toList c.argTypes.toList
  | _=>none
 | _=>none
def pf (P:Program) (ev:Operand->AV) (o:List (Option aa)):List Operand->List TypeId->Option (Prop×AV×List (Option aa))
 | [x,y],[T,T']=>if T=T' then oO P T o (ev x) (ev y).st else none
 | _,_=>none
def z7 (P:Program) (T:TypeId) (o:List (Option aa)) (a b:AV):Option (Prop×AV×List (Option aa)):=
 match iP P T,a with
 | some (e,z,bytes), .vec id len=>match o[id]?,lB o z b with
  | some (some ob),some (p,rows2)=>some ((ob.fw=true∧ob.z=z∧ob.T=e∧ob.rows.length=len)∧p∧rows2.length=len, .v (.int .i64 (len:Nat)),o.set id (some { ob with rows:=rows2 }))
  | _,_=>none
 | _,_=>none
def yn (P:Program) (ev:Operand->AV) (o:List (Option aa)):List Operand->List TypeId->Option (Prop×AV×List (Option aa))
 | [x,y],[T,T']=>if T=T' then z7 P T o (ev x) (ev y).st else none
 | _,_=>none
section
variable {D:Nat->Prop} {nu:Nat->Nat->Value} {o:List (Option aa)} {w:World}
theorem zG {P:Program} (w:World) (T ty e:TypeId) {i:TypeInfo} (hu:P.underlying T=some (.slice e)) (hi:P.info? e=some i) (g n dcap:Nat) (a:Addr) (scap:Nat) (cur:Array Value) (t:TypeId) (news:List Value)
  (hg:w.heap[g]? = some (.cells cur t (0,0))) (hN:news.length=n * i.size) (hcell: ∀j u,news[j]? = some u->w.cell? (a.add j)=some u) (hsz:news.length<=cur.size) (h1: ∀v∈news,v.oneCell'=true) :
  (Builtin.copy_ #[T,T] ty #[.slice (some ⟨g,0,none⟩) n dcap, .slice (some a) n scap]).run P w = .ok (goInt n) (w.setRow g (news++cur.toList.drop news.length).toArray):=by
 have hl:=run_loadCells_list (P:=P) w a news hcell;have hst:=run_storeCells_at P g 0 t news 0 cur w hg (by simpa using hsz) h1;simp only [Nat.zero_add,List.take_zero,List.nil_append] at hst;simp [Builtin.copy_,run_underlying hu,Builtin.lenOf,Builtin.firstCells,sizeOf,typeInfo,hi, <- hN,hl,hst]
theorem zF {P:Program} (w:World) (T ty e:TypeId) {i:TypeInfo} (hu:P.underlying T=some (.slice e)) (hi:P.info? e=some i) (d a:Option Addr) (dcap scap:Nat) :
  (Builtin.copy_ #[T,T] ty #[.slice d 0 dcap, .slice a 0 scap]).run P w = .ok (goInt 0) w:=by
 have hl: ∀(x:Addr),(loadCells x 0).run P w = .ok #[] w:=fun x=>by simpa using run_loadCells_list (P:=P) w x [] (by simp)
 cases d<;>cases a<;>simp [Builtin.copy_,run_underlying hu,Builtin.lenOf,Builtin.firstCells,sizeOf,typeInfo,hi,storeCells,hl]
theorem Ca {P:Program} {T:TypeId} (ty:TypeId) {e:TypeId} {z bytes:Nat} (ht:iP P T=some (e,z,bytes)) (h:RO D nu o w) {id:Nat} {ob:aa} (ho:o[id]? = some (some ob)) (hv:ob.fw=true) (hz:ob.z=z) (hT:ob.T=e) {b:AV} {y:Value} (hs:RA D nu o w b y)
  {p:Prop} {rows2:List (List AV)} (e2:lB o z b=some (p,rows2)) (hp:p) (hlen:rows2.length=ob.rows.length) :
  Good D nu o w ((Builtin.copy_ #[T,T] ty #[nu id ob.rows.length,y]).run P w) (.v (.int .i64 (ob.rows.length:Nat))) (o.set id (some { ob with rows:=rows2 })):=by
 obtain ⟨hu,i,zv,hi,hzv,hzs,hz0,hsize,hbytes⟩:=fu ht;obtain ⟨xs,hown,hL,hob⟩:=h.oW ho hv
 have hhl:ob.hl=ob.rows.length:=by simp [aa.hl,hv]
 have none':rows2=[]->o.set id (some { ob with rows:=rows2 })=o:=fun h0=>by
  subst h0;have hr0:ob.rows=[]:=RM (by simpa using hlen.symm)
  have e1:({ ob with rows:=[] }:aa)=ob:=by rw [<-hr0]
  rw [e1]
  apply List.ext_getElem?
  intro k
  by_cases hk:id=k
  ·subst hk;rw [Rx (Ra.1 ho).1];exact ho.symm
  ·rw [Rw hk]
 have shape: ∃d dcap,nu id ob.rows.length = .slice d ob.rows.length dcap:=by
  rcases hown.2 with ⟨e4,e5⟩|⟨g',cap,cur,e4,_⟩
  ·exact ⟨none,0,by rw [e4];simp [e5]⟩
  ·exact ⟨_,_,e4⟩
 have zero:rows2=[]-> ∀a c,y = .slice a 0 c->Good D nu o w ((Builtin.copy_ #[T,T] ty #[nu id ob.rows.length,y]).run P w) (.v (.int .i64 (ob.rows.length:Nat))) (o.set id (some { ob with rows:=rows2 })):=by
  intro h0 a c ey;rw [none' h0]
  have hn0:ob.rows.length=0:=by rw [<-hlen,h0];rfl
  obtain ⟨d,dcap,ed⟩:=shape;rw [ed,ey,hn0];exact Good.pure h (.v _) (zF w T ty e hu hi d a dcap c)
 rcases iu h hz0 hs e2 hp with ⟨rfl,h0⟩|⟨ga,c,news,rfl,hN,hcell⟩
 ·exact zero h0 _ _ rfl
 ·by_cases h0:rows2=[]
  ·exact zero h0 (some ga) c (by rw [h0];rfl)
  ·have hpos:0<rows2.length:=List.length_pos_iff.2 h0
   rcases h.obj id ob ho with e|⟨g,cur,hr⟩|⟨g,es,cl,hmp⟩
   ·obtain ⟨_,e2,_⟩:=e;exact absurd (RM (by rw [hlen,e2];rfl)) h0
   ·obtain ⟨cap,e4,hcap,hcm,hsz⟩:=hr.vec hv
    have hnl:news.length<=cur.size:=by rw [hN.len,hsz,hz,hlen];exact Nat.mul_le_mul_right _ hcap
    have hrun:=zG (P:=P) w T ty e hu hi g ob.rows.length cap ga c cur ob.T news hr.blk (by rw [hN.len,hlen,hsize]) hcell hnl hN.one
    have hg:cW (nu id ob.hl)=some g:=by rw [hhl,e4];rfl
    rw [e4,hlen,hrun];generalize hcur:(news++cur.toList.drop news.length).toArray=cur'
    have h5: ∀b,b≠g->(w.setRow g cur').heap[b]? = w.heap[b]? :=fun b hb=>by simp [World.setRow,R7,Ne.symm hb]
    have h6:(w.setRow g cur').heap[g]? = some (.cells cur' ob.T (0,0)):=by simp [World.setRow,R7,hr.blk]
    have hm:=jf (w:=w) (ob':={ ob with rows:=rows2 }) (w':=w.setRow g cur') ho (by simp [aa.hl,hv,hlen]) hg rfl rfl rfl (by simp [World.setRow]) h5;refine ⟨_,_,nu,rfl,hm,qT h ho (by simp [aa.hl,hv,hlen]) hg hm h5 (cur:=cur') ?_, .v _⟩
    have hat: ∀(i j:Nat) row c,rows2[i]? = some row->row[j]? = some c-> ∃x,cur'[i * ob.z+j]? = some x∧RA D nu o w c x∧x.oneCell'=true:=by
     intro i j row c q1 q2;obtain ⟨x,x1,x2⟩:=hN.cell i j row c q1 q2;refine ⟨x, ?_,x2,hN.one x (RK x1)⟩;rw [hz, <- hcur];simp only [Rr];rw [Rb (Ra.1 x1).1];exact x1
    refine ⟨h6,hr.kJ,fun e'=>by simp [hv] at e',fun _=>⟨cap, ?_, ?_,hcm, ?_⟩,hr.z, ?_,fun i j row c x q1 q2 q3=> ?_,fun i j row c x q1 q2 q3=> ?_⟩
    ·simp only [hlen];exact e4
    ·simp only [hlen];exact hcap
    ·rw [<-hcur];simp;omega
    ·intro i row q;simp only at q ⊢; rw [hz];exact hN.row i row q
    ·obtain ⟨u,u1,u2,u3⟩:=hat i j row c q1 q2;rw [u1] at q3;cases q3;exact u2.mono hm (fun _ _ h=>h)
    ·obtain ⟨u,u1,u2,u3⟩:=hat i j row c q1 q2;rw [u1] at q3;cases q3;exact u3
   ·have:=hmp.fw;simp [hv] at this
theorem yV {P:Program} {T:TypeId} (ty:TypeId) (h:RO D nu o w) {a b:AV} {x y:Value} (hr:RA D nu o w a x) (hs:RA D nu o w b y) {p:Prop} {r:AV} {o':List (Option aa)} (hl:z7 P T o a b=some (p,r,o')) (hp:p) :
  Good D nu o w ((Builtin.copy_ #[T,T] ty #[x,y]).run P w) r o':=by
 unfold z7 at hl
 split at hl
 ·rename_i e z bytes id len ht
  split at hl
  ·rename_i ob p' rows2 ho e2;simp only [Rl,Rm] at hl;obtain ⟨rfl,rfl,rfl⟩:=hl;obtain ⟨⟨hv,hz,hT,rfl⟩,hp',hlen⟩:=hp;cases hr;exact Ca ty ht h ho hv hz hT hs e2 hp' hlen
  ·cases hl
 ·cases hl
end
def oP (P:Program) (op:BinOp) (T:TypeId) (o:List (Option aa)):AV->AV->Option (Prop×AV)
 | .vec id len, .v (.slice none 0 0)=>if sw P T then (match o[id]? with
  | some (some ob)=>(match op with
   | .eql=>some (ob.fw=true∧ob.rows.length=len∧0<len, .v (.bool false))
   | .neq=>some (ob.fw=true∧ob.rows.length=len∧0<len, .v (.bool true))
   | _=>none)
  | _=>none) else none
 | _,_=>none
section
variable {D:Nat->Prop} {nu:Nat->Nat->Value} {o:List (Option aa)} {w:World} {P:Program}
theorem xR {op:BinOp} {T:TypeId} {a b:AV} {x y:Value} (h:RO D nu o w) (hx:RA D nu o w a x) (hy:RA D nu o w b y) {p:Prop} {r:AV} (ha:oP P op T o a b=some (p,r)) (hp:p) (X Y:Operand) :
  ∃v,(binOp op T x y).run P w = .ok v w∧RA D nu o w r v∧(eqGuard op T X Y x y).run P w = .ok () w:=by
 unfold oP at ha
 split at ha
 ·rename_i id len
  split at ha
  ·rename_i hT
   split at ha
   ·rename_i ob ho
    have key:ob.fw=true∧ob.rows.length=len∧0<len-> ∃g n c,x = .slice (some g) n c:=fun ⟨hv,hl,hpos⟩=>by
     subst hl;cases hx
     rcases h.obj id ob ho with ⟨_,e2,_⟩|⟨g,cur,hb⟩|⟨g,es,cl,hmp⟩
     ·rw [e2] at hpos;simp at hpos
     ·obtain ⟨cap,q1,_⟩:=hb.vec hv;exact ⟨_,_,_,q1⟩
     ·have:=hmp.fw;rw [this] at hv;cases hv
    obtain rfl:=hy.cj
    split at ha
    ·simp only [Rl,Rm] at ha;obtain ⟨rfl,rfl⟩:=ha;obtain ⟨g,n,c,rfl⟩:=key hp;exact ⟨_,(jK hT).1, .v _,j9 (fun _ _ e=>by cases e.1) (fun e=>by cases e)⟩
    ·simp only [Rl,Rm] at ha;obtain ⟨rfl,rfl⟩:=ha;obtain ⟨g,n,c,rfl⟩:=key hp;exact ⟨_,(jK hT).2, .v _,j9 (fun _ _ e=>by cases e.1) (fun e=>by cases e)⟩
    ·cases ha
   ·cases ha
  ·cases ha
 ·cases ha
end
def GP (P:Program) (ev:Operand->AV) (o:List (Option aa)) (op:Op):Option (Prop×AV×List (Option aa)):=
 match op with
 | .box T x=>match (ev x).cells? with
  | some (c :: cs)=>some (True, .ptr o.length 0 (cs.length+1) 0 0,o++[some ⟨T,cs.length+1,false,[c :: cs]⟩])
  | _=>none
 | .alloc T=>match cJ P T with
  | some (c :: cs)=>some (True, .ptr o.length 0 (cs.length+1) 0 0,o++[some ⟨T,cs.length+1,false,[c :: cs]⟩])
  | _=>none
 | .buildSlice T len parts=>match fh P T len o (parts.toList.map fun p=>(p.1,ev p.2)) with
  | some (r,o')=>some (True,r,o')
  | none=>none
 | .store T a x=>match tJ P T o (ev a) (ev x) with
  | some (p,o')=>some (p, .v Go.undef,o')
  | none=>none
 | .makeSlice T l c=>Ab P T o (ev l) (ev c)
 | .makeMap T none=>some (True, .vec o.length 0,o++[some ⟨T,0,false,[]⟩])
 | .mapUpdate T m k x=>match ph P T o (ev m) (ev k) (ev x) with
  | some (p,o')=>some (p, .v Go.undef,o')
  | none=>none
 | .insert T m k x=>match ph P T o (ev m) (ev k) (ev x) with
  | some (p,o')=>some (p, .v Go.undef,o')
  | none=>none
 | .lookup T m k ok=>match vD P T o (ev m) (ev k) ok with
  | some (p,r)=>some (p,r,o)
  | none=>none
 | .convert src dst x=>match vB P src dst (ev x) with
  | some r=>some (True,r,o)
  | none=>match tE P o src dst (ev x).st with
   | some (p,r)=>some (p,r,o)
   | none=>none
 | .slice T x lo hi mx=>lA P T o (ev x).st (lo.map ev) (hi.map ev) (mx.map ev)
 | .binOp op T x y T'=>match vJ P ev o (.binOp op T x y T') with
  | some (p,r)=>some (p,r,o)
  | none=>match oP P op T o (ev x) (ev y) with
   | some (p,r)=>some (p,r,o)
   | none=>none
 | .call c=>match c.callee with
  | .builtin .append=>pf P ev o c.args.toList c.argTypes.toList
  | .builtin .copy=>yn P ev o c.args.toList c.argTypes.toList
  | _=>match vJ P ev o (.call c) with
   | some (p,r)=>some (p,r,o)
   | none=>none
 | op=>match vJ P ev o op with
  | some (p,r)=>some (p,r,o)
  | none=>none
section
variable {D:Nat->Prop} {nu:Nat->Nat->Value} {o:List (Option aa)} {w:World} {P:Program}
def DF (D:Nat->Prop) (nu:Nat->Nat->Value) (o:List (Option aa)) (w:World) (ev:Operand->AV) (rho:Operand->Value) (op:Op):Prop:= ∀x,x∈op.operands.toList->RA D nu o w (ev x) (rho x)
theorem iU {ev:Operand->AV} {rho:Operand->Value} {oo:Oper} (h:RO D nu o w) (hev:DF D nu o w ev rho oo.op) {p:Prop} {r:AV} (ha:vJ P ev o oo.op=some (p,r)) (hp:p) :
  ∃v,(execOp rho oo).run P w = .ok (.value v) w∧RA D nu o w r v:=by
 obtain ⟨dst,op,ty,pos,after,guard⟩:=oo;simp only [DF] at hev ha;unfold vJ at ha
 split at ha
 ·rename_i x;cases ha;exact ⟨rho x,rfl,hev x (by simp [Op.operands])⟩
 ·rename_i x;cases ha;exact ⟨rho x,rfl,hev x (by simp [Op.operands])⟩
 ·rename_i x;have hx:=hev x (by simp [Op.operands]);generalize hq:rho x=vx at hx
  split at ha
  ·rename_i e;rw [e] at hx;cases ha;refine ⟨vx, ?_,hx⟩;cases hx;simp only [execOp,hq,Sem.run_pure]
  ·rename_i e;rw [e] at hx;cases ha;refine ⟨vx, ?_,hx⟩;cases hx;simp only [execOp,hq,Sem.run_pure]
  ·rename_i e;rw [e] at hx;cases ha;refine ⟨vx, ?_,hx⟩;cases hx;simp only [execOp,hq,Sem.run_pure]
  ·cases ha
 ·rename_i T parts
  split at ha
  ·rename_i r' hb;cases ha
   obtain ⟨v,h1,h2⟩:=yU (P:=P) (vs:=parts.map fun (i,x)=>(i,rho x)) (by simp) (fun k p q a b=>by
    rw [Rs] at a;rw [R8] at b
    have e:parts.toList[k]? = parts[k]? :=by simp
    rw [e] at a
    cases hk:parts[k]? with
    | none=>rw [hk] at a;cases a
    | some pr=>
     rw [hk] at a b;cases a;cases b
     exact ⟨rfl,hev pr.2 (by
      simp only [Op.operands]
      have:pr∈parts.toList:=RK (by rw [e];exact hk)
      simpa using ⟨pr.1,by simpa using this⟩)⟩) hb
   exact ⟨v,by simp [execOp,h1],h2⟩
  ·cases ha
 ·rename_i T x;obtain ⟨v,h1,h2⟩:=so (P:=P) h (hev x (by simp [Op.operands])) ha hp;exact ⟨v,by simp [execOp,h1],h2⟩
 ·rename_i op' T x y T';obtain ⟨v,h1,h2,h3⟩:=Eg (P:=P) (hev x (by simp [Op.operands])) (hev y (by simp [Op.operands])) ha hp x y;exact ⟨v,by simp [execOp,h1,h3],h2⟩
 ·rename_i op' T x
  split at ha
  ·rename_i r' hb;cases ha;obtain ⟨v,h1,h2⟩:=IZ (P:=P) (hev x (by simp [Op.operands])) hb;exact ⟨v,by simp [execOp,h1],h2⟩
  ·cases ha
 ·rename_i src dst' x
  split at ha
  ·rename_i r' hb;cases ha;obtain ⟨v,h1,h2⟩:=sa (P:=P) (hev x (by simp [Op.operands])) hb;exact ⟨v,by simp [execOp,h1],h2⟩
  ·cases ha
 ·rename_i f first caps
  cases ha
  refine ⟨.func (.func f) (first.map rho) (caps.map rho),by simp [execOp,Instr.makeFunc], .fn _ _ _ _ _ (by simp) (by simp) (fun i c x q1 q2=> ?_) (fun i c x q1 q2=> ?_)⟩
  ·rw [Rs] at q1;rw [R8] at q2
   have e:first.toList[i]? = first[i]? :=by simp
   rw [e] at q1
   cases hk:first[i]? with
   | none=>rw [hk] at q1;cases q1
   | some pr=>
    rw [hk] at q1 q2;cases q1;cases q2;exact hev pr (by simp only [Op.operands];have:=R9 hk;simp [this])
  ·rw [Rs] at q1;rw [R8] at q2
   have e:caps.toList[i]? = caps[i]? :=by simp
   rw [e] at q1
   cases hk:caps[i]? with
   | none=>rw [hk] at q1;cases q1
   | some pr=>
    rw [hk] at q1 q2;cases q1;cases q2;exact hev pr (by simp only [Op.operands];have:=R9 hk;simp [this])
 ·rename_i T x f
  split at ha
  ·rename_i r' hb;cases ha;obtain ⟨v,h1,h2⟩:=pZ (P:=P) (hev x (by simp [Op.operands])) hb;exact ⟨v,by simp [execOp,h1],h2⟩
  ·cases ha
 ·rename_i T x f;obtain ⟨v,h1,h2⟩:=yW (P:=P) (hev x (by simp [Op.operands])) ha hp;exact ⟨v,by simp [execOp,h1],h2⟩
 ·rename_i T x i;obtain ⟨v,h1,h2⟩:=p7 (P:=P) h (hev x (by simp [Op.operands])).st (hev i (by simp [Op.operands])) ha hp;exact ⟨v,by simp [execOp,h1],h2⟩
 ·rename_i T x i;obtain ⟨v,h1,h2⟩:=yZ (P:=P) (hev x (by simp [Op.operands])) (hev i (by simp [Op.operands])) ha hp;exact ⟨v,by simp [execOp,h1],h2⟩
 ·rename_i T m k ok;obtain ⟨v,h1,h2⟩:=pg (P:=P) h (hev m (by simp [Op.operands])) (hev k (by simp [Op.operands])) ha hp;exact ⟨v,by simp [execOp,h1],h2⟩
 ·rename_i x i
  split at ha
  ·rename_i r' hb;cases ha;obtain ⟨v,h1,h2⟩:=tW (P:=P) (hev x (by simp [Op.operands])) hb;exact ⟨v,by simp [execOp,h1],h2⟩
  ·cases ha
 ·rename_i c
  split at ha
  ·rename_i b hc;have hops: ∀x,x∈c.args.toList->RA D nu o w (ev x) (rho x):=fun x hx=>hev x (by simp only [Op.operands,Call.operands,hc];simpa using hx);obtain ⟨callee,args,argTypes⟩:=c;simp only at hc ha hops;subst hc;obtain ⟨args⟩:=args;obtain ⟨argTypes⟩:=argTypes;simp only at ha hops;unfold mW at ha
   split at ha
   ·rename_i x T;obtain ⟨v,h1,h2⟩:=E0 (P:=P) ty h (hops x (by simp)).st ha hp;exact ⟨v,by simp [execOp,resolve,invoke,builtin,h1],h2⟩
   ·rename_i Ts x y;have h1:=hops x (by simp);have h2:=hops y (by simp)
    split at ha
    ·rename_i e1 e2;cases ha;rw [e1] at h1;rw [e2] at h2;have q1:=h1.cj;have q2:=h2.cj;exact ⟨_,by simp [execOp,resolve,invoke,builtin,Builtin.min_,Builtin.min2,q1,q2], .v _⟩
    ·cases ha
   ·rename_i Ts x y;have h1:=hops x (by simp);have h2:=hops y (by simp)
    split at ha
    ·rename_i e1 e2;cases ha;rw [e1] at h1;rw [e2] at h2;have q1:=h1.cj;have q2:=h2.cj;exact ⟨_,by simp [execOp,resolve,invoke,builtin,Builtin.max_,Builtin.max2,q1,q2], .v _⟩
    ·cases ha
   ·cases ha
  ·cases ha
 ·cases ha
def I6 (D:Nat->Prop) (nu:Nat->Nat->Value) (o:List (Option aa)) (w:World) (res:Result Next) (r:AV) (o':List (Option aa)):Prop:=
 ∃v w' nu',(res = .ok (.value v) w'∨(res = .ok .skip w'∧v=Go.undef))∧b7 nu o w nu' o' w'∧RO D nu' o' w'∧RA D nu' o' w' r v
theorem Js {x:Sem Value} {r:AV} {o':List (Option aa)} (h:Good D nu o w (x.run P w) r o'):I6 D nu o w ((do pure (Next.value (<-x)):Sem Next).run P w) r o':=by
 obtain ⟨v,w',nu',h1,h2⟩:=h;exact ⟨v,w',nu', .inl (by simp [h1]),h2⟩
theorem jd {ev:Operand->AV} {rho:Operand->Value} {lo:Option Operand} (h: ∀x,lo=some x->RA D nu o w (ev x) (rho x)):(∀c,lo.map ev=some c-> ∃y,lo.map rho=some y∧RA D nu o w c y)∧(lo.map ev=none->lo.map rho=none):=by
 cases lo with
 | none=>exact ⟨fun c hc=>(by cases hc),fun _=>rfl⟩
 | some x=>exact ⟨fun c hc=>by cases hc;exact ⟨_,rfl,h x rfl⟩,fun hc=>by cases hc⟩
theorem vR {T:TypeId} {c:AV} {cs:List AV} {x:Value} (h:RO D nu o w) (hc:Gl D nu o w (c :: cs) x.cells):Good D nu o w ((Instr.box T x).run P w) (.ptr o.length 0 (cs.length+1) 0 0) (o++[some ⟨T,cs.length+1,false,[c :: cs]⟩]):=by
 have:=EH h T hc (by simp)
 simp only [List.length_cons] at this
 have e:(Instr.box T x).run P w = .ok (.pointer (some ⟨w.heap.size,0,none⟩)) (w.alloc (.cells x.cells T)):=by simp [Instr.box,newVar,newRow]
 rw [e];exact this
theorem vK {ev:Operand->AV} {rho:Operand->Value} {oo:Oper} (h:RO D nu o w) (hev:DF D nu o w ev rho oo.op) {p:Prop} {r:AV} {o':List (Option aa)} (ha:GP P ev o oo.op=some (p,r,o')) (hp:p) :
  I6 D nu o w ((execOp rho oo).run P w) r o':=by
 unfold GP at ha
 split at ha
 ·rename_i T x hop;have hx:=hev x (by rw [hop];simp [Op.operands])
  split at ha
  ·rename_i c cs hc;cases ha
   have:=Js (vR (P:=P) (T:=T) h (hx.one hc))
   simpa only [execOp,hop] using this
  ·cases ha
 ·rename_i T hop
  split at ha
  ·rename_i c cs hc;cases ha;obtain ⟨i,zv,hi,hzv,he,hone⟩:=fV hc
   have hz:(zeroValue T).run P w = .ok zv w:=by simp [zeroValue,typeInfo,hi,hzv]
   have hb:=vR (P:=P) (T:=T) (x:=zv) h (by rw [he];exact vj zv hone)
   have e:(Instr.alloc T true (.tuple #[])).run P w=(Instr.box T zv).run P w:=by simp [Instr.alloc,Instr.box,hz]
   rw [<-e] at hb
   have:=Js hb
   simpa only [execOp,hop] using this
  ·cases ha
 ·rename_i T len parts hop
  split at ha
  ·rename_i r' o'' hb;cases ha
   have:=Js (oL (P:=P) (vs:=parts.map fun (i,x)=>(i,rho x)) h (by simp) (fun k p q a b=>by
    rw [Rs] at a;rw [R8] at b
    have e:parts.toList[k]? = parts[k]? :=by simp
    rw [e] at a
    cases hk:parts[k]? with
    | none=>rw [hk] at a;cases a
    | some pr=>
     rw [hk] at a b;cases a;cases b
     exact ⟨rfl,hev pr.2 (by
      rw [hop];simp only [Op.operands]
      have:pr∈parts.toList:=RK (by rw [e];exact hk)
      simpa using ⟨pr.1,by simpa using this⟩)⟩) hb)
   simpa only [execOp,hop] using this
  ·cases ha
 ·rename_i T a x hop
  split at ha
  ·rename_i p' o'' hb;cases ha;obtain ⟨w',h1,h2,h3⟩:=yY (P:=P) h (hev a (by rw [hop];simp [Op.operands])) (hev x (by rw [hop];simp [Op.operands])) hb hp;exact ⟨_,w',nu, .inr ⟨by simp [execOp,hop,h1],rfl⟩,h2,h3, .v _⟩
  ·cases ha
 ·rename_i T l c hop
  have:=Js (Cb (P:=P) h (hev l (by rw [hop];simp [Op.operands])) (hev c (by rw [hop];simp [Op.operands])) ha hp)
  simpa only [execOp,hop] using this
 ·rename_i T hop;cases ha
  have:=Js (uo h P T)
  simpa [execOp,hop] using this
 ·rename_i T m k x hop
  split at ha
  ·rename_i p' o'' hb;cases ha;obtain ⟨w',h1,h2,h3⟩:=nS (P:=P) h (hev m (by rw [hop];simp [Op.operands])) (hev k (by rw [hop];simp [Op.operands])) (hev x (by rw [hop];simp [Op.operands])) hb hp;exact ⟨_,w',nu, .inr ⟨by simp [execOp,hop,h1],rfl⟩,h2,h3, .v _⟩
  ·cases ha
 ·rename_i T m k x hop
  split at ha
  ·rename_i p' o'' hb;cases ha;obtain ⟨w',h1,h2,h3⟩:=nS (P:=P) h (hev m (by rw [hop];simp [Op.operands])) (hev k (by rw [hop];simp [Op.operands])) (hev x (by rw [hop];simp [Op.operands])) hb hp;exact ⟨_,w',nu, .inr ⟨by simp [execOp,hop,h1],rfl⟩,h2,h3, .v _⟩
  ·cases ha
 ·rename_i T m k ok hop
  split at ha
  ·rename_i p' r' hb;cases ha;obtain ⟨v,h1,h2⟩:=pg (P:=P) h (hev m (by rw [hop];simp [Op.operands])) (hev k (by rw [hop];simp [Op.operands])) hb hp;exact ⟨v,w,nu, .inl (by simp [execOp,hop,h1]), .refl nu o w,h,h2⟩
  ·cases ha
 ·rename_i src dst x hop;have hx:=hev x (by rw [hop];simp [Op.operands])
  split at ha
  ·rename_i r' hb;cases ha;obtain ⟨v,h1,h2⟩:=sa (P:=P) hx hb;exact ⟨v,w,nu, .inl (by simp [execOp,hop,h1]), .refl nu o w,h,h2⟩
  ·split at ha
   ·rename_i p' r' hb;cases ha;obtain ⟨v,h1,h2⟩:=yK (P:=P) h hx.st hb hp;exact ⟨v,w,nu, .inl (by simp [execOp,hop,h1]), .refl nu o w,h,h2⟩
   ·cases ha
 ·rename_i T x lo hi mx hop
  have:=Js (yX (P:=P) h (hev x (by rw [hop];simp [Op.operands])).st (jd (rho:=rho) (fun y hy=>hev y (by rw [hop,hy];simp [Op.operands]))) (jd (rho:=rho) (fun y hy=>hev y (by rw [hop,hy];simp [Op.operands]))) (jd (rho:=rho) (fun y hy=>hev y (by rw [hop,hy];simp [Op.operands]))) ha hp)
  simpa only [execOp,hop] using this
 ·rename_i op' T x y T' hop
  split at ha
  ·rename_i p' r' hb;cases ha;rw [<-hop] at hb;obtain ⟨v,h1,h2⟩:=iU (P:=P) h hev hb hp;exact ⟨v,w,nu, .inl h1, .refl nu o w,h,h2⟩
  ·split at ha
   ·rename_i p' r' hb;cases ha;obtain ⟨v,h1,h2,h3⟩:=xR (P:=P) h (hev x (by rw [hop];simp [Op.operands])) (hev y (by rw [hop];simp [Op.operands])) hb hp x y;exact ⟨v,w,nu, .inl (by simp [execOp,hop,h1,h3]), .refl nu o w,h,h2⟩
   ·cases ha
 ·rename_i c hop
  split at ha
  ·rename_i hc;have hops: ∀x,x∈c.args.toList->RA D nu o w (ev x) (rho x):=fun x hx=>hev x (by rw [hop];simp only [Op.operands,Call.operands,hc];simpa using hx);obtain ⟨callee,args,argTypes⟩:=c;simp only at hc ha hops;subst hc;obtain ⟨args⟩:=args;obtain ⟨argTypes⟩:=argTypes;simp only at ha hops;unfold pf at ha
   split at ha
   ·rename_i x y T T'
    split at ha
    ·rename_i hT;subst hT
     have:=Js (wq (P:=P) oo.type h (hops x (by simp)) (hops y (by simp)).st ha hp)
     simpa [execOp,hop,resolve,invoke,builtin] using this
    ·cases ha
   ·cases ha
  ·rename_i hc;have hops: ∀x,x∈c.args.toList->RA D nu o w (ev x) (rho x):=fun x hx=>hev x (by rw [hop];simp only [Op.operands,Call.operands,hc];simpa using hx);obtain ⟨callee,args,argTypes⟩:=c;simp only at hc ha hops;subst hc;obtain ⟨args⟩:=args;obtain ⟨argTypes⟩:=argTypes;simp only at ha hops;unfold yn at ha
   split at ha
   ·rename_i x y T T'
    split at ha
    ·rename_i hT;subst hT
     have:=Js (yV (P:=P) oo.type h (hops x (by simp)) (hops y (by simp)).st ha hp)
     simpa [execOp,hop,resolve,invoke,builtin] using this
    ·cases ha
   ·cases ha
  ·split at ha
   ·rename_i p' r' hb;cases ha;rw [<-hop] at hb;obtain ⟨v,h1,h2⟩:=iU (P:=P) h hev hb hp;exact ⟨v,w,nu, .inl h1, .refl nu o w,h,h2⟩
   ·cases ha
 ·split at ha
  ·rename_i p' r' hb;cases ha;obtain ⟨v,h1,h2⟩:=iU (P:=P) h hev hb hp;exact ⟨v,w,nu, .inl h1, .refl nu o w,h,h2⟩
  ·cases ha
end
end
section
mutual
def AV.wf (n:Nat):AV->Bool
 | .undef=>true
 | .v _=>true
 | .agg cs=>bn n cs
 | .dC vs=>bn n vs
 | .aC _ rows _=>dA n rows
 | .vp cs=>bn n cs
 | .ptr id _ _ _ _=>decide (id<n)
 | .vec id _=>decide (id<n)
 | .fn _ f c=>bn n f&&bn n c
 | .full a=>a.wf n
 | .iR _ a=>a.wf n
 | .mp rows=>dA n rows
def bn (n:Nat):List AV->Bool
 | []=>true
 | a :: l=>a.wf n&&bn n l
def dA (n:Nat):List (List AV)->Bool
 | []=>true
 | r :: l=>bn n r&&dA n l
end
theorem bU {n:Nat}: ∀ {l:List AV},bn n l=true-> ∀ {i:Nat} {c:AV},l[i]? = some c->c.wf n=true
 | [],_,i,c,h=>by simp at h
 | a :: l,h,0,c,hi=>by simp only [bn,RY] at h;simp at hi;subst hi;exact h.1
 | a :: l,h,i+1,c,hi=>by simp only [bn,RY] at h;exact bU h.2 (by simpa using hi)
theorem gP {n:Nat}: ∀ {l:List (List AV)},dA n l=true-> ∀ {i:Nat} {r:List AV},l[i]? = some r->bn n r=true
 | [],_,i,c,h=>by simp at h
 | a :: l,h,0,c,hi=>by simp only [dA,RY] at h;simp at hi;subst hi;exact h.1
 | a :: l,h,i+1,c,hi=>by simp only [dA,RY] at h;exact gP h.2 (by simpa using hi)
theorem vd {n:Nat}: ∀ {l:List (List AV)},(∀r∈l,bn n r=true)->dA n l=true
 | [],_=>rfl
 | a :: l,h=>by simp only [dA,RY];exact ⟨h a (by simp),vd (fun c hc=>h c (by simp [hc]))⟩
theorem bE {α:Type} {n:Nat} (f:α->List AV) (h: ∀x,bn n (f x)=true) (l:List α):dA n (l.map f)=true:=vd (fun r hr=>by
 obtain ⟨x,_,rfl⟩:=List.mem_map.1 hr;exact h x)
section
variable {D D':Nat->Prop} {nu nu':Nat->Nat->Value} {o o':List (Option aa)} {w:World} {P:Program}
theorem RA.tr {n:Nat} (hF: ∀b,Fz D nu o w b->Fz D' nu' o' w b) (hH: ∀id len,id<n->cw o id len->cw o' id len∧nu' id len=nu id len) {a:AV} {x:Value} (hr:RA D nu o w a x) (ha:a.wf n=true):RA D' nu' o' w a x:=by
 induction hr with
 | undef x=>exact .undef x
 | v x=>exact .v x
 | agg cs xs h1 _ h3 ih=>exact .agg cs xs h1 (fun i c x hc hx=>ih i c x hc hx (bU ha hc)) h3
 | dC cs xs h1 _ ih=>exact .dC cs xs h1 (fun i c x hc hx=>ih i c x hc hx (bU ha hc))
 | bf z=>exact .bf z
 | bC z a=>exact .bC z a
 | aC z rows len b off cap f h1 h2 h3 h4 h5 h6 _ h8 ih=>
  exact .aC z rows len b off cap f h1 h2 h3 (fun hne=>hF b (h4 hne)) h5 h6 (fun i j row c hi hj=>ih i j row c hi hj (bU (gP ha hi) hj)) h8
 | vp cs b off f h1 h2 _ h4 ih=>exact .vp cs b off f (hF b h1) h2 (fun j c hc=>ih j c hc (bU ha hc)) h4
 | ptr id len z row off b h1 h2=>
  simp only [AV.wf,decide_eq_true_eq] at ha;obtain ⟨h3,h4⟩:=hH id len ha h1;exact .ptr id len z row off b h3 (by rw [h4];exact h2)
 | vec id len h1 h2=>
  simp only [AV.wf,decide_eq_true_eq] at ha;obtain ⟨h3,h4⟩:=hH id len ha h1;rw [<-h4];exact .vec id len h3 (by rw [h4];exact h2)
 | fn g first caps fi ca h1 h2 _ _ ih1 ih2=>
  simp only [AV.wf,RY] at ha
  exact .fn g first caps fi ca h1 h2 (fun i c x hc hx=>ih1 i c x hc hx (bU ha.1 hc)) (fun i c x hc hx=>ih2 i c x hc hx (bU ha.2 hc))
 | full a x h1 _ ih=>
  simp only [AV.wf] at ha;exact .full a x h1 (ih ha)
 | iR p a x S h0 h1 hc h2 _ ih=>
  simp only [AV.wf] at ha;exact .iR p a x S h0 (fun b hb=>hF b (h1 b hb)) hc h2 (ih ha)
 | mp rows b es cl h1 h2 h3 h4 h5 h6 _ ih=>
  simp only [AV.wf] at ha;exact .mp rows b es cl (hF b h1) h2 h3 h4 h5 h6 (fun i j row c e q1 q2 q3=>ih i j row c e q1 q2 q3 (bU (gP ha q1) q2))
theorem fX.tr {n:Nat} (hF: ∀b,Fz D nu o w b->Fz D' nu' o' w b) (hH: ∀id len,id<n->cw o id len->cw o' id len∧nu' id len=nu id len) {cs:List AV} {xs:Array Value} (hr:fX D nu o w cs xs) (ha:bn n cs=true):fX D' nu' o' w cs xs:=
 ⟨hr.len,fun i c x h1 h2=>(hr.at' i c x h1 h2).tr hF hH (bU ha h1)⟩
end
def dO (P:Program) (f:FuncId):Bool:=match P.funcs[f]? with
 | some fn=>fn.name != "runtime.NumGoroutine" && fn.body.isSome
 | none=>false
theorem gO {P:Program} {f:FuncId} (h:dO P f=true) (args:Array Value) (w:World):(callFunc f args).run P w = .ok (.enter f args) w:=by
 unfold dO at h
 split at h
 ·rename_i fn hf;simp only [RY,bne_iff_ne,ne_eq] at h;obtain ⟨c,hc⟩:=Option.isSome_iff_exists.1 h.2;simp [callFunc,hf,h.1,hc]
 ·cases h
def DG (D:Nat->Prop) (nu:Nat->Nat->Value) (o:List (Option aa)) (w:World) (Q:AV->List (Option aa)->Prop) (e:Ending) (w':World):Prop:=
 ∃v nu' o' r,e = .returned v∧b7 nu o w nu' o' w'∧RO D nu' o' w'∧RA D nu' o' w' r v∧Q r o'
def gj (P:Program) (f:FuncId) (args:List AV) (o:List (Option aa)) (Q:AV->List (Option aa)->Prop):Prop:=
 dO P f=true∧ ∀D nu w vargs,RO D nu o w->fX D nu o w args vargs->Calls P f vargs w (DG D nu o w Q)
def ag (P:Program) (f:FuncId) (args:List AV) (r:AV):Prop:=(bn 0 args=true∧r.wf 0=true)∧gj P f args [] (fun r' o'=>r'=r∧o'=[])
section
variable {D:Nat->Prop} {nu:Nat->Nat->Value} {o:List (Option aa)} {w:World} {P:Program}
theorem gj.mono {f:FuncId} {args:List AV} {Q Q':AV->List (Option aa)->Prop} (h:gj P f args o Q) (hq: ∀r o',Q r o'->Q' r o'):gj P f args o Q':=
 ⟨h.1,fun D nu w vargs h1 h2=>(h.2 D nu w vargs h1 h2).mono (fun _ _ ⟨v,nu',o',r,k1,k2,k3,k4,k5⟩=>⟨v,nu',o',r,k1,k2,k3,k4,hq r o' k5⟩)⟩
def zW (D:Nat->Prop) (nu:Nat->Nat->Value) (o:List (Option aa)) (w:World) (b:Nat):Prop:=b<w.heap.size->Fz D nu o w b
theorem vY {b:Nat} (h:Fz D nu o w b):Fz (zW D nu o w) nu [] w b:=⟨h.1,ba _ _,fun _=>h⟩
theorem Ho (h:RO D nu o w) {nu':Nat->Nat->Value} {w':World} {b:Nat} (hb:Fz (zW D nu o w) nu' [] w' b):Fz D nu o w' b:=by
 rcases Rc b w.heap.size with hlt|hge
 ·have:=hb.2.2 hlt
  exact ⟨hb.1,this.2.1,this.2.2⟩
 ·exact ⟨hb.1,fun ho=>by have:=h.aU ho;omega,h.up b hge⟩
theorem fD {nu':Nat->Nat->Value} {w':World} (h:b7 nu [] w nu' [] w'):Below w.heap.size w w':=⟨h.os,h.tape,h.output,h.size,fun k hk=>(h.keep k hk (ba _ _)).1⟩
theorem pB {f:FuncId} {args:List AV} {r:AV} {vargs:Array Value} (hc:ag P f args r) (h:RO D nu o w) (ha:fX D nu o w args vargs) :
  Calls P f vargs w (fun e w'=> ∃v,e = .returned v∧Below w.heap.size w w'∧RA D nu o w' r v):=by
 obtain ⟨⟨h1,h2⟩,_,h3⟩:=hc;refine (h3 (zW D nu o w) nu w vargs (.nil _ _ _ (fun b hb hlt=>by omega) (h.gl.fz (fun b hf=>⟨rfl,vY hf⟩))) (ha.tr (n:=0) (fun b hb=>vY hb) (fun id len hlt=>by omega) h1)).mono ?_;rintro e w' ⟨v,nu',o',r',rfl,hm,hro,hra,rfl,rfl⟩;exact ⟨v,rfl,fD hm,hra.tr (n:=0) (fun b hb=>Ho h hb) (fun id len hlt=>by omega) h2⟩
def Vw (o:List (Option aa)) (a a':AV):Prop:=(a'=a∧a.wf 0=true)∨ ∃id len ob,a = .vec id len∧o[id]? = some (some ob)∧ob.fw=true∧ob.rows.length=len∧dA 0 ob.rows=true∧a' = .aC ob.z ob.rows len
def Nc (o:List (Option aa)):List AV->List AV->Prop
 | [],[]=>True
 | a :: l,b :: m=>Vw o a b∧Nc o l m
 | _,_=>False
def AV.flat:AV->Bool
 | .v _=>true
 | .agg cs=>cs.all (fun c=>match c with| .v _=>true|_=>false)
 | _=>false
theorem RA.flat {D':Nat->Prop} {nu':Nat->Nat->Value} {o':List (Option aa)} {w':World} {r:AV} {x:Value} (h:RA D nu o w r x) (hf:r.flat=true):RA D' nu' o' w' r x:=by
 cases h with
 | v=>exact .v _
 | agg cs xs h1 h2 h3=>
  refine .agg cs xs h1 (fun i c x q1 q2=> ?_) h3;have hc:=List.all_eq_true.1 hf c (RK q1);have hr:=h2 i c x q1 q2
  cases c with
  | v y=>cases hr;exact .v _
  | _=>simp at hc
 | _=>simp [AV.flat] at hf
theorem I0 (h:RO D nu o w) {a a':AV} {x:Value} (hv:Vw o a a') (hr:RA D nu o w a x):a'.wf 0=true∧RA (fun _=>True) nu [] w a' x:=by
 have hF: ∀b,b<w.heap.size->Fz (fun _=>True) nu [] w b:=fun b hb=>⟨hb,ba _ _,trivial⟩
 rcases hv with ⟨rfl,hw⟩|⟨id,len,ob,rfl,ho,hv,rfl,hw,rfl⟩
 ·exact ⟨hw,hr.tr (n:=0) (fun b hb=>hF b hb.1) (fun id len hlt=>by omega) hw⟩
 ·refine ⟨by simpa only [AV.wf] using hw, ?_⟩;cases hr;exact (jL h ho hv).tr (n:=0) (fun b hb=>hF b hb.1) (fun id len hlt=>by omega) (by simpa only [AV.wf] using hw)
theorem xU (h:RO D nu o w): ∀ {as bs:List AV} {xs:List Value},Nc o as bs->as.length=xs.length->(∀(i:Nat) c x,as[i]? = some c->xs[i]? = some x->RA D nu o w c x) ->
  bn 0 bs=true∧bs.length=xs.length∧ ∀(i:Nat) c x,bs[i]? = some c->xs[i]? = some x->RA (fun _=>True) nu [] w c x
 | [],[],[],_,_,_=>⟨rfl,rfl,fun i c x h=>by simp at h⟩
 | a :: as,b :: bs,x :: xs,hv,hl,hr=>by
  obtain ⟨h1,h2⟩:=I0 h hv.1 (hr 0 a x rfl rfl);obtain ⟨h3,h4,h5⟩:=xU h hv.2 (by simpa using hl) (fun i c x q1 q2=>hr (i+1) c x (by simpa using q1) (by simpa using q2));refine ⟨by simp only [bn,h1,h3,Bool.and_self],by simpa using h4,fun i c y q1 q2=> ?_⟩
  cases i with
  | zero=>simp at q1 q2;subst q1;subst q2;exact h2
  | succ i=>exact h5 i c y (by simpa using q1) (by simpa using q2)
 | [],_ :: _,_,hv,_,_=>hv.elim
 | _ :: _,[],_,hv,_,_=>hv.elim
 | [],[],_ :: _,_,hl,_=>by simp at hl
 | _ :: _,_ :: _,[],_,hl,_=>by simp at hl
theorem yG {f:FuncId} {args args':List AV} {r:AV} {vargs:Array Value} (hc:ag P f args' r) (hv:Nc o args args') (hf:r.flat=true) (h:RO D nu o w) (ha:fX D nu o w args vargs) :
  Calls P f vargs w (fun e w'=> ∃v,e = .returned v∧Below w.heap.size w w'∧RA D nu o w' r v):=by
 obtain ⟨⟨h1,h2⟩,_,h3⟩:=hc;obtain ⟨k1,k2,k3⟩:=xU (xs:=vargs.toList) h hv (by simpa using ha.len) (fun i c x q1 q2=>ha.at' i c x q1 (by simpa using q2));refine (h3 (fun _=>True) nu w vargs (.nil _ _ _ (fun _ _=>trivial) (h.gl.nil (fun _ _ _=>trivial))) ⟨by simpa using k2,fun i c x q1 q2=>k3 i c x q1 (by simpa using q2)⟩).mono ?_;rintro e w' ⟨v,nu',o',r',rfl,hm,hro,hra,rfl,rfl⟩;exact ⟨v,rfl,fD hm,hra.flat hf⟩
def ab (P:Program) (f:FuncId) (args:List AV) (o:List (Option aa)) (K:AV->List (Option aa)->Prop):Prop:=
 (∃r,ag P f args r∧K r o)∨(∃args' r,Nc o args args'∧r.flat=true∧ag P f args' r∧K r o)∨gj P f args o K
theorem ab.one {f:FuncId} {args:List AV} {r:AV} {K:AV->List (Option aa)->Prop} (h:ag P f args r) (k:K r o):ab P f args o K:= .inl ⟨r,h,k⟩
theorem ab.two {f:FuncId} {args:List AV} {K Q:AV->List (Option aa)->Prop} (h:gj P f args o Q) (k: ∀r o',Q r o'->K r o'):ab P f args o K:= .inr (.inr (h.mono k))
theorem yE {f:FuncId} {args:List AV} {K:AV->List (Option aa)->Prop} {vargs:Array Value} (hc:ab P f args o K) (h:RO D nu o w) (ha:fX D nu o w args vargs):dO P f=true∧Calls P f vargs w (DG D nu o w K):=by
 rcases hc with ⟨r,hc,hk⟩|⟨args',r,hv,hf,hc,hk⟩|hc
 ·refine ⟨hc.2.1,(pB hc h ha).mono ?_⟩;rintro e w' ⟨v,rfl,hb,hr⟩;exact ⟨v,nu,o,r,rfl,aw hb,h.below hb,hr,hk⟩
 ·refine ⟨hc.2.1,(yG hc hv hf h ha).mono ?_⟩;rintro e w' ⟨v,rfl,hb,hr⟩;exact ⟨v,nu,o,r,rfl,aw hb,h.below hb,hr,hk⟩
 ·exact ⟨hc.1,hc.2 D nu w vargs h ha⟩
def AR (x:Option (Prop×AV×List (Option aa))) (K:AV->List (Option aa)->Prop):Prop:=match x with
 | some (p,r,o')=>p∧K r o'
 | none=>False
@[congr] theorem Lc {x y:Option (Prop×AV×List (Option aa))} {K:AV->List (Option aa)->Prop} (h:x=y):AR x K=AR y K:=by rw [h]
theorem Gx (p:Prop) (r:AV) (o':List (Option aa)) (K:AV->List (Option aa)->Prop):AR (some (p,r,o')) K=(p∧K r o'):=rfl
theorem Gy (r:AV) (o':List (Option aa)) (K:AV->List (Option aa)->Prop):AR (some (True,r,o')) K=K r o':=by simp [AR]
@[congr] theorem Gr {f:FuncId} {args args':List AV} {K:AV->List (Option aa)->Prop} (h:args=args'):ab P f args o K=ab P f args' o K:=by rw [h]
def cL (b:Bool) (A B:Prop):Prop:=if b then A else B
@[congr] theorem KM {b c:Bool} {A B:Prop} (h:b=c):cL b A B=cL c A B:=by rw [h]
theorem vt (A B:Prop):cL true A B=A:=rfl
theorem rO (A B:Prop):cL false A B=B:=rfl
theorem cL.part {b:Bool} {A B:Prop} (h1:b=true->A) (h2:b=false->B):cL b A B:=by cases b<;>simp_all [cL]
def JA (P:Program) (f:AV) (args:List AV) (o:List (Option aa)) (K:AV->List (Option aa)->Prop):Prop:=match f with
 | .fn g first caps=>ab P g (first++args++caps) o K
 | _=>False
@[congr] theorem KK {f f':AV} {args args':List AV} {K:AV->List (Option aa)->Prop} (h:f=f') (k:args=args'):JA P f args o K=JA P f' args' o K:=by rw [h,k]
theorem JD (g:FuncId) (first caps args:List AV) (K:AV->List (Option aa)->Prop):JA P (.fn g first caps) args o K=ab P g (first++args++caps) o K:=rfl
def vq (P:Program) (op:Op) (s:AS) (K:AV->List (Option aa)->Prop):Prop:=match op with
 | .pick c a b=>match s.ev c with
  | .v (.bool t)=>cL t (K (s.ev a) s.o) (K (s.ev b) s.o)
  | _=>False
 | .call c=>match c.callee with
  | .value f=>JA P (s.ev f) (c.args.toList.map s.ev) s.o K
  | _=>AR (GP P s.ev s.o (.call c)) K
 | op=>AR (GP P s.ev s.o op) K
theorem pk {s:AS} {a:Act} {oo:Oper} {K:AV->List (Option aa)->Prop} {next:Act->World->Prop} {Q:Exit->Act->World->Prop} (h:RO D nu s.o w) (hev:DF D nu s.o w s.ev a.eval oo.op) (hd:vq P oo.op s K)
  (hk: ∀v w' nu' r o',b7 nu s.o w nu' o' w'->RO D nu' o' w'->RA D nu' o' w' r v->K r o'->next (a.put oo.dst v) w'):oo.wp P a w next Q:=by
 have hop: ∀op,oo.op=op->AR (GP P s.ev s.o op) K->oo.wp P a w next Q:=by
  intro op ho hh;subst ho;unfold AR at hh
  split at hh
  ·rename_i p r o' e;obtain ⟨v,w',nu',h1,h2,h3,h4⟩:=vK (P:=P) h hev e hh.1
   have:=hk v w' nu' r o' h2 h3 h4 hh.2
   unfold Oper.wp
   rcases h1 with h1|⟨h1,rfl⟩
   ·rw [h1,Oper.upon_value];exact this
   ·rw [h1,Oper.upon_skip];exact this
  ·exact hh.elim
 unfold vq at hd
 split at hd
 ·rename_i c x y ho;have hc:=hev c (by rw [ho];simp [Op.operands])
  split at hd
  ·rename_i t e;rw [e] at hc;have hcv:=hc.cj;unfold Oper.wp
   have hrun:(execOp a.eval oo).run P w = .ok (.value (if t then a.eval x else a.eval y)) w:=by simp [execOp,ho,hcv,asBool]
   rw [hrun,Oper.upon_value]
   cases t
   ·exact hk _ w nu _ _ (.refl nu _ w) h (hev y (by rw [ho];simp [Op.operands])) hd
   ·exact hk _ w nu _ _ (.refl nu _ w) h (hev x (by rw [ho];simp [Op.operands])) hd
  ·exact hd.elim
 ·rename_i c ho
  split at hd
  ·rename_i f hc;unfold JA at hd
   split at hd
   ·rename_i g first caps e
    have hf:=hev f (by rw [ho];simp [Op.operands,Call.operands,hc]);rw [e] at hf;generalize hq:a.eval f=vf at hf
    cases hf with
    | fn _ _ _ fi ca q1 q2 q3 q4=>
    have hargs: ∀x,x∈c.args.toList->RA D nu s.o w (s.ev x) (a.eval x):=fun x hx=>hev x (by rw [ho];simp only [Op.operands,Call.operands,hc];simp;exact .inr (by simpa using hx))
    have hra:fX D nu s.o w (first++c.args.toList.map s.ev++caps) (fi++c.args.map a.eval++ca):=by
     refine ⟨by simp [q1,q2],fun i cc x k1 k2=> ?_⟩;rw [List.append_assoc] at k1;rw [Array.append_assoc] at k2
     rcases Rc i first.length with l1|l1
     ·rw [Rb l1] at k1;rw [RL (by omega)] at k2;exact q3 i cc x k1 k2
     ·rw [RF l1] at k1;rw [Sa (by omega)] at k2;rw [q1] at k1
      rcases Rc (i - fi.size) c.args.size with l2|l2
      ·rw [Rb (by simpa using l2),Rs] at k1;rw [RL (by simpa using l2),R8] at k2
       have e2:c.args.toList[i - fi.size]? = c.args[i - fi.size]? :=by simp
       rw [e2] at k1
       cases hk2:c.args[i - fi.size]? with
       | none=>rw [hk2] at k1;cases k1
       | some y=>
        rw [hk2] at k1 k2;cases k1;cases k2;exact hargs y (RK (by rw [e2];exact hk2))
      ·rw [RF (by simpa using l2)] at k1;rw [Sa (by simpa using l2)] at k2;simp only [R5,Array.length_toList,Array.size_map] at k1 k2;exact q4 _ cc x k1 k2
    obtain ⟨c1,c2⟩:=yE (P:=P) hd h hra;unfold Oper.wp
    have hrun:(execOp a.eval oo).run P w = .ok (.enter g (fi++c.args.map a.eval++ca)) w:=by
     simp only [execOp,ho,resolve,hc,hq,Deferred.ofValue,Sem.run_bind,Sem.run_pure,Result.andThen_ok,invoke];exact gO c1 _ w
    rw [hrun,Oper.upon_enter];refine c2.mono ?_;rintro e w' ⟨v,nu',o',r,rfl,m1,m2,m3,m4⟩;exact hk v w' nu' r o' m1 m2 m3 m4
   ·exact hd.elim
  ·exact hop _ ho hd
 ·exact hop _ rfl hd
structure Fr where
 B:Nat
 r:Option Nat
 Z:Nat->Prop
def Fr.wz (f:Fr) (Z:Nat->Prop):Fr:=⟨f.B,f.r,Z⟩
def za (x:Nat):Deferred:={ target:= .collected x,args:= #[] }
def qd:Obj->Bool
 | .deferred _=>true
 | .loop _=>true
 | _=>false
structure FR (f:Fr) (ds:List Deferred) (w:World):Prop where
 base:f.B<=w.heap.size
 marks: ∃rs:List Nat,rs.Nodup∧ds=rs.map za∧ ∀x,x∈rs->f.B<=x∧f.Z x∧w.heap[x]? = some (.deferred (some []))
 loop: ∀l,f.r=some l-> ∃q,w.heap[l]? = some (.loop q)
theorem FR.keep {f:Fr} {ds:List Deferred} {w w':World} (h:FR f ds w) (hz:w.heap.size<=w'.heap.size) (hk: ∀(b:Nat) ob,f.Z b∨f.r=some b->w.heap[b]? = some ob->qd ob=true->w'.heap[b]? = some ob):FR f ds w':=by
 obtain ⟨rs,h1,h2,h3⟩:=h.marks
 refine ⟨Nat.le_trans h.base hz,⟨rs,h1,h2,fun x hx=> ?_⟩,fun l hl=> ?_⟩
 ·obtain ⟨q1,q2,q3⟩:=h3 x hx;exact ⟨q1,q2,hk x _ (.inl q2) q3 rfl⟩
 ·obtain ⟨q,hq⟩:=h.loop l hl;exact ⟨q,hk l _ (.inr hl) hq rfl⟩
theorem jB {D:Nat->Prop} {nu:Nat->Nat->Value} {o:List (Option aa)} {w:World} (h:RO D nu o w) {b:Nat} {ob:Obj} (hb:w.heap[b]? = some ob) (hc:qd ob=true): ¬owned nu o b:=fun ⟨id,x,h1,h2⟩=>by
 rcases h.obj id x h1 with ⟨e1,e2,e3⟩|⟨g,cur,hr⟩|⟨g,es,cl,hmp⟩
 ·simp only [aa.hl,e1,e2,if_true,List.length_nil,e3,cW,dn] at h2;cases h2
 ·rw [hr.bJ] at h2;cases h2;rw [hr.blk] at hb;cases hb;cases hc
 ·rw [hmp.bJ] at h2;cases h2;rw [hmp.blk] at hb;cases hb;cases hc
theorem FR.mono {f:Fr} {ds:List Deferred} {D:Nat->Prop} {nu nu':Nat->Nat->Value} {o o':List (Option aa)} {w w':World} (h:FR f ds w) (hro:RO D nu o w) (hm:b7 nu o w nu' o' w'):FR f ds w':=
 h.keep hm.size (fun b ob hd hb hc=>(hm.keep b (Q8.1 hb).1 (jB hro hb hc)).1.trans hb)
theorem FR.Jt {f:Fr} {Z:Nat->Prop} {ds:List Deferred} {w:World} (h:FR f ds w) (hz: ∀b,f.Z b->Z b):FR (f.wz Z) ds w:=by
 obtain ⟨rs,h1,h2,h3⟩:=h.marks;exact ⟨h.base,⟨rs,h1,h2,fun x hx=>⟨(h3 x hx).1,hz x (h3 x hx).2.1,(h3 x hx).2.2⟩⟩,h.loop⟩
structure RS (f:Fr) (D:Nat->Prop) (nu:Nat->Nat->Value) (s:AS) (a:Act) (w:World):Prop where
 ro:RO D nu s.o w
 tm:fX D nu s.o w s.t a.tmps
 gG:FR f a.defers w
theorem RS.ev {s:AS} {a:Act} {f:Fr} (h:RS f D nu s a w) (x:Operand):RA D nu s.o w (s.ev x) (a.eval x):=by
 cases x with
 | tmp t=>
  simp only [AS.ev,Act.eval]
  rcases Rc t s.t.length with hlt|hge
  ·have e1:s.t[t]? = some s.t[t]:=Rp hlt;have hl:=h.tm.len
   have hlt':t<a.tmps.size:=by rw [<-hl];exact hlt
   have hx:a.tmps[t]? = some a.tmps[t]:=Ro hlt';rw [getD_some e1]
   have:a.tmps.getD t Go.undef=a.tmps[t]:=by simp [Array.getD,hlt']
   rw [this];exact h.tm.at' t _ _ e1 hx
  ·rw [R6,Ru hge];exact .undef _
 | const v=>exact .v v
 | global gi=>exact ml h.ro s gi
 | func f=>
  exact .fn f [] [] #[] #[] rfl rfl (fun i c x h=>by simp at h) (fun i c x h=>by simp at h)
theorem RS.put {s:AS} {a:Act} {f:Fr} (h:RS f D nu s a w) {w':World} {nu':Nat->Nat->Value} {o':List (Option aa)} {r:AV} {v:Value} (hm:b7 nu s.o w nu' o' w') (hro:RO D nu' o' w') (hr:RA D nu' o' w' r v) (dst:Option Tmp) :
  RS f D nu' (s.put dst r o') (a.put dst v) w':=by
 have ht:=h.tm.mono hm (fun _ _ h=>h)
 refine ⟨hro, ?_, ?_⟩
 ·cases dst with
  | none=>exact ht
  | some d=>
   refine ⟨by simpa [AS.put,Act.put] using ht.len,fun i c x h1 h2=> ?_⟩;simp only [AS.put,Act.put] at h1 h2 ⊢
   by_cases hd:d=i
   ·subst hd;have hlt:=(Ra.1 h1).1;simp only [List.length_set] at hlt;rw [Rx hlt] at h1;rw [Array.getElem?_setIfInBounds_self_of_lt (by have:=ht.len;omega)] at h2;cases h1;cases h2;exact hr
   ·rw [Rw hd] at h1;rw [Array.getElem?_setIfInBounds_ne hd] at h2;exact ht.at' i c x h1 h2
 ·have:=h.gG.mono h.ro hm
  cases dst<;>simpa [Act.put] using this
def iw (all:List Oper) (s:AS) (j:Nat):Option (Option Bool):=match all[j]? with
 | none=>some none
 | some o=>match o.dst with
  | none=>some none
  | some d=>match s.t[d]? with
   | none=>some none
   | some (.v (.bool b))=>some (some b)
   | some (.v (.tuple _))=>some none
   | _=>none
def ri (g:Option (Option Bool)) (want:Bool) (A B:Prop):Prop:=match g with
 | some (some b)=>cL (b==want) A B
 | some none=>B
 | none=>False
@[congr] theorem KL {g g':Option (Option Bool)} {want:Bool} {A B:Prop} (h:g=g'):ri g want A B=ri g' want A B:=by rw [h]
theorem Dz (b want:Bool) (A B:Prop):ri (some (some b)) want A B=cL (b==want) A B:=rfl
theorem Dy (want:Bool) (A B:Prop):ri (some none) want A B=B:=rfl
theorem fS {all:List Oper} {s:AS} {a:Act} {j:Nat} {g:Option Bool} (htm: ∀d c x,(∃o,all[j]? = some o∧o.dst=some d)->s.t[d]? = some c->a.tmps[d]? = some x->RA D nu s.o w c x) (hlen:s.t.length=a.tmps.size) (h:iw all s j=some g):yielded all.toArray a.tmps j=g:=by
 unfold iw at h;unfold yielded;rw [Rr]
 split at h
 ·rename_i e;rw [e];cases h;rfl
 ·rename_i o e;rw [e];simp only [Option.bind_some]
  split at h
  ·rename_i e2;rw [e2];cases h;rfl
  ·rename_i d e2;rw [e2];simp only [Option.bind_some]
   split at h
   ·rename_i e3;cases h
    have:s.t.length<=d:=List.getElem?_eq_none_iff.1 e3
    rw [Array.getElem?_eq_none (by omega)]
   ·rename_i b e3;cases h;have hlt:=(Ra.1 e3).1;have hx:a.tmps[d]? = some a.tmps[d]:=Ro (by omega)
    have:=(htm d _ _ ⟨o,e,e2⟩ e3 hx).cj
    rw [hx,this]
   ·rename_i vs e3;cases h;have hlt:=(Ra.1 e3).1;have hx:a.tmps[d]? = some a.tmps[d]:=Ro (by omega)
    have:=(htm d _ _ ⟨o,e,e2⟩ e3 hx).cj
    rw [hx,this]
   ·cases h
def dy (A B:Prop):Prop:=A∧B
theorem dy.mk {A B:Prop} (h:A) (k:B):dy A B:=⟨h,k⟩
def mV (y:iQ) (l:Nat) (args:List AV) (K:AV->iQ->Prop):Prop:=match y with
 | .run l' (x :: rest)=>(l=l'∧args=x∧bn 0 x=true)∧dy (K (.v (.bool true)) (.run l' rest)) (K (.v (.bool false)) .off)
 | _=>False
@[congr] theorem Gz {y y':iQ} {l l':Nat} {args args':List AV} {K:AV->iQ->Prop} (h1:y=y') (h2:l=l') (h3:args=args'):mV y l args K=mV y' l' args' K:=by rw [h1,h2,h3]
theorem yd (l l':Nat) (args x:List AV) (rest:List (List AV)) (K:AV->iQ->Prop):mV (.run l' (x :: rest)) l args K=((l=l'∧args=x∧bn 0 x=true)∧dy (K (.v (.bool true)) (.run l' rest)) (K (.v (.bool false)) .off)):=rfl
def JF (P:Program) (fv:AV) (args:List AV) (dst:Option Tmp) (s:AS) (K:AS->Prop):Prop:=match fv with
 | .v (.func (.yield l) fi _)=>fi.size=0∧mV s.y l args (fun r y=>K ⟨(s.put dst r s.o).t,s.o,y⟩)
 | fv=>JA P fv args s.o (fun r o'=>K (s.put dst r o'))
@[congr] theorem KQ {fv fv':AV} {args args':List AV} {dst:Option Tmp} {s:AS} {K:AS->Prop} (h1:fv=fv') (h2:args=args'):JF P fv args dst s K=JF P fv' args' dst s K:=by rw [h1,h2]
theorem JG (g:FuncId) (first caps args:List AV) (dst:Option Tmp) (s:AS) (K:AS->Prop):JF P (.fn g first caps) args dst s K=ab P g (first++args++caps) s.o (fun r o'=>K (s.put dst r o')):=rfl
theorem Lf (l:Nat) (args:List AV) (dst:Option Tmp) (s:AS) (K:AS->Prop):JF P (.v (.func (.yield l) #[] #[])) args dst s K=mV s.y l args (fun r y=>K ⟨(s.put dst r s.o).t,s.o,y⟩):=by simp [JF]
def AY (P:Program) (op:Op) (dst:Option Tmp) (s:AS) (K:AS->Prop):Prop:=match op with
 | .call c=>match c.callee with
  | .value f=>JF P (s.ev f) (c.args.toList.map s.ev) dst s K
  | _=>vq P op s (fun r o'=>K (s.put dst r o'))
 | _=>vq P op s (fun r o'=>K (s.put dst r o'))
def rP (P:Program) (all:List Oper) (oo:Oper) (s:AS) (K:AS->Prop):Prop:=match oo.guard with
 | none=>AY P oo.op oo.dst s K
 | some (j,want)=>ri (iw all s j) want (AY P oo.op oo.dst s K) (K (s.put oo.dst (.v Go.undef) s.o))
def iS (P:Program) (all:List Oper):List Oper->AS->(AS->Prop)->Prop
 | [],s,Q=>Q s
 | oo :: rest,s,Q=>rP P all oo s (fun s'=>iS P all rest s' Q)
@[congr] theorem JE {all ops:List Oper} {s s':AS} {Q:AS->Prop} (h:s=s'):iS P all ops s Q=iS P all ops s' Q:=by rw [h]
section
variable {D':Nat->Prop} {w':World}
theorem RA.keep (hF: ∀b,Fz D nu o w b->w'.heap[b]? = w.heap[b]? ∧Fz D' nu o w' b) {a:AV} {x:Value} (hr:RA D nu o w a x):RA D' nu o w' a x:=by
 induction hr with
 | undef x=>exact .undef x
 | v x=>exact .v x
 | agg cs xs h1 _ h3 ih=>exact .agg cs xs h1 ih h3
 | dC cs xs h1 _ ih=>exact .dC cs xs h1 ih
 | bf z=>exact .bf z
 | bC z a=>exact .bC z a
 | aC z rows len b off cap f h1 h2 h3 h4 h5 h6 _ h8 ih=>
  refine .aC z rows len b off cap f h1 h2 h3 (fun hne=>(hF b (h4 hne)).2) h5 (fun i j row c hr hc=> ?_) ih h8
  have hne:rows≠[]:=fun e=>by subst e;simp at hr
  rw [World.cell?_of_block (w:=w) (hF b (h4 hne)).1];exact h6 i j row c hr hc
 | vp cs b off f h1 h2 _ h4 ih=>
  refine .vp cs b off f (hF b h1).2 (fun j c hc=> ?_) ih h4;rw [World.cell?_of_block (w:=w) (hF b h1).1];exact h2 j c hc
 | ptr id len z row off b h1 h2=>exact .ptr id len z row off b h1 h2
 | vec id len h1 h2=>exact .vec id len h1 h2
 | fn g first caps fi ca h1 h2 _ _ ih1 ih2=>exact .fn g first caps fi ca h1 h2 ih1 ih2
 | full a x h1 _ ih=>exact .full a x h1 ih
 | iR p a x S h0 h1 hc h2 _ ih=>exact .iR p a x S h0 (fun b hb=>(hF b (h1 b hb)).2) (fun b hb=>by rw [(hF b (h1 b hb)).1];exact hc b hb) (fun w2 hw=>h2 w2 (fun b hb=>(hw b hb).trans (hF b (h1 b hb)).1)) ih
 | mp rows b es cl h1 h2 h3 h4 h5 h6 _ ih=>exact .mp rows b es cl (hF b h1).2 ((hF b h1).1.trans h2) h3 h4 h5 h6 ih
theorem RO.fB (h:RO D nu o w) {b:Nat} (hb:owned nu o b):D b:=by
 obtain ⟨id,ob,h1,h2⟩:=hb
 rcases h.obj id ob h1 with ⟨e1,e2,e3⟩|⟨g,cur,hr⟩|⟨g,es,cl,hmp⟩
 ·simp only [aa.hl,e1,e2,if_true,List.length_nil,e3,cW,dn] at h2;cases h2
 ·rw [hr.bJ] at h2;cases h2;exact hr.kJ
 ·rw [hmp.bJ] at h2;cases h2;exact hmp.kJ
theorem RO.keep (h:RO D nu o w) (ho: ∀b,owned nu o b->w'.heap[b]? = w.heap[b]? ∧D' b) (hu: ∀b,w'.heap.size<=b->D' b) (hF: ∀b,Fz D nu o w b->w'.heap[b]? = w.heap[b]? ∧Fz D' nu o w' b):RO D' nu o w':=by
 refine ⟨fun id ob hid=> ?_,hu,h.sep,h.gl.fz hF⟩
 rcases h.obj id ob hid with e|⟨g,cur,hr⟩|⟨g,es,cl,hmp⟩
 ·exact .inl e
 ·have hown:owned nu o g:=⟨id,ob,hid,hr.bJ⟩;exact .inr (.inl ⟨g,cur,(ho g hown).1.trans hr.blk,(ho g hown).2,hr.box,hr.vec,hr.z,hr.row,fun i j row c x q1 q2 q3=>(hr.cell i j row c x q1 q2 q3).keep hF,hr.one⟩)
 ·have hown:owned nu o g:=⟨id,ob,hid,hmp.bJ⟩;exact .inr (.inr ⟨g,es,cl,hmp.tr (ho g hown).1 (fun _=>(ho g hown).2) rfl (fun i j row c x _ _ hr=>hr.keep hF)⟩)
end
structure zY (Z:Nat->Prop) (nu:Nat->Nat->Value) (o:List (Option aa)) (w:World) (nu':Nat->Nat->Value) (o':List (Option aa)) (w':World):Prop where
 os:w'.os=w.os
 tape:w'.tape=w.tape
 output:w'.output=w.output
 size:w.heap.size<=w'.heap.size
 p9: ∀id len,id<o'.length->cw o id len->cw o' id len∧nu' id len=nu id len
 keep: ∀b,b<w.heap.size-> ¬owned nu o b-> ¬Z b->w'.heap[b]? = w.heap[b]? ∧ ¬owned nu' o' b
theorem b7.QM {Z:Nat->Prop} {nu nu':Nat->Nat->Value} {o o':List (Option aa)} {w w':World} (h:b7 nu o w nu' o' w'):zY Z nu o w nu' o' w':=⟨h.os,h.tape,h.output,h.size,fun id len _ hh=>h.p9 id len hh,fun b h1 h2 _=>h.keep b h1 h2⟩
structure WM (P:Program) where
 n0:Nat
 fix:Nat->Prop
 M:(Nat->Prop)->(Nat->Nat->Value)->List (Option aa)->(Nat->Prop)->iQ->World->Prop
 step: ∀ {D D' nu o Z Z' y w nu' o' w'},M D nu o Z y w->RO D nu o w->zY Z nu o w nu' o' w'->RO D' nu' o' w'->(∀c v,RA D nu o w c v->c.wf o'.length=true->RA D' nu' o' w' c v)->(∀b,D' b->D b∨Z b)->(∀b,D b->D' b∨Z' b) ->
  (∀b,Z' b->b<w'.heap.size∧ ¬D' b∧(Z b∨owned nu o b∨w.heap.size<=b))->n0<=o'.length->M D' nu' o' Z' y w'
 mS: ∀ {D nu o Z y w},M D nu o Z y w->(∀b,Z b->b<w.heap.size∧ ¬D b)∧n0<=o.length∧ ∀b,fix b->b<w.heap.size∧ ¬Z b∧ ¬D b
 yield: ∀ {D nu o Z l x rest w} {vals:Array Value},M D nu o Z (.run l (x :: rest)) w->RO D nu o w->fX D nu o w x vals->bn 0 x=true ->
  YieldAt (WF none) 8 P l vals w (fun e w'=>(w'.os=w.os∧w'.tape=w.tape∧w'.output=w.output∧w.heap.size<=w'.heap.size∧ ∀b,b<w.heap.size->D b∨Z b∨owned nu o b∨fix b->w'.heap[b]? = w.heap[b]?) ∧
   ((e = .returned (.bool true)∧M (fun b=>D b∧ ¬(w.heap.size<=b∧b<w'.heap.size)) nu o Z (.run l rest) w')∨(e = .returned (.bool false)∧M (fun b=>D b∧ ¬(w.heap.size<=b∧b<w'.heap.size)) nu o Z .off w')))
theorem WM.own {P:Program} (m:WM P) {D:Nat->Prop} {nu nu':Nat->Nat->Value} {o o':List (Option aa)} {Z:Nat->Prop} {y:iQ} {w w':World} (h:m.M D nu o Z y w) (hro:RO D nu o w) (hm:b7 nu o w nu' o' w') (hro':RO D nu' o' w'):m.M D nu' o' Z y w':=by
 refine m.step h hro hm.QM hro' (fun c v hr _=>hr.mono hm (fun _ _ h=>h)) (fun _ h=> .inl h) (fun _ h=> .inl h) (fun b hb=>⟨Nat.lt_of_lt_of_le ((m.mS h).1 b hb).1 hm.size,((m.mS h).1 b hb).2, .inl hb⟩) ?_;have h2:=(m.mS h).2.1
 rcases Nat.eq_zero_or_pos o.length with q|q
 ·omega
 ·have e:=Rp (show o.length - 1<o.length by omega);obtain ⟨h1,_⟩:=hm.p9 (o.length - 1) 0 ⟨_,e,fun _ _=>Nat.zero_le _⟩
  have:=gr h1
  omega
theorem RS.others {f:Fr} {s:AS} {a:Act} {w':World} (h:RS f D nu s a w) (hz:w.heap.size<=w'.heap.size) (hk: ∀b,b<w.heap.size->D b∨owned nu s.o b∨f.r=some b∨f.Z b->w'.heap[b]? = w.heap[b]?) (y:iQ):RS f (fun b=>D b∧ ¬(w.heap.size<=b∧b<w'.heap.size)) nu ⟨s.t,s.o,y⟩ a w':=by
 have hF: ∀b,Fz D nu s.o w b->w'.heap[b]? = w.heap[b]? ∧Fz (fun b=>D b∧ ¬(w.heap.size<=b∧b<w'.heap.size)) nu s.o w' b:=fun b hf=>⟨hk b hf.1 (.inl hf.2.2),Nat.lt_of_lt_of_le hf.1 hz,hf.2.1,hf.2.2,fun hh=>by have:=hf.1;omega⟩;refine ⟨h.ro.keep (fun b hb=>⟨hk b (h.ro.aU hb) (.inr (.inl hb)),h.ro.fB hb,fun hh=>by have:=h.ro.aU hb;omega⟩) (fun b hb=>⟨h.ro.up b (Nat.le_trans hz hb),fun hh=>by omega⟩) hF,⟨h.tm.len,fun i c x q1 q2=>(h.tm.at' i c x q1 q2).keep hF⟩,h.gG.keep hz (fun b ob hd hb _=> ?_)⟩;have hlt:=(Q8.1 hb).1;exact (hk b hlt (.inr (.inr (Or.comm.1 hd)))).trans hb
theorem G6 {f:Fr} (m:WM P) (hZr: ∀l,f.r=some l->m.fix l) {s:AS} {a:Act} {oo:Oper} {K:AS->Prop} {next:Act->World->Prop} {Q:Exit->Act->World->Prop} (hcalm: ∀c,oo.op ≠ .defer c) (hm:m.M D nu s.o f.Z s.y w) (hs:RS f D nu s a w) (hd:AY P oo.op oo.dst s K)
  (hk: ∀D' v w' nu' s',m.M D' nu' s'.o f.Z s'.y w'->RS f D' nu' s' (a.put oo.dst v) w'->K s'->next (a.put oo.dst v) w'):oo.wpIn (WF f.r) 9 P a w next Q:=by
 have plain:vq P oo.op s (fun r o'=>K (s.put oo.dst r o'))->oo.wpIn (WF f.r) 9 P a w next Q:=fun hd=>by
  have h:=pk (P:=P) (next:=fun a' w'=>next a' w') (Q:=fun e a' w'=>e ≠ .outgrown∧Q e a' w') hs.ro (fun x _=>hs.ev x) hd (fun v w' nu' r o' m1 m2 m3 m4=>hk D v w' nu' (s.put oo.dst r o') (m.own hm hs.ro m1 m2) (hs.put m1 m2 m3 oo.dst) m4);refine ⟨fun f _=>trivial, ?_⟩;rw [Oper.semAt_eq _ _ oo hcalm];unfold Oper.wp at h;generalize (execOp a.eval oo).run P w=res at h;unfold Oper.upon at h;unfold Oper.uponIn
  split at h
  ·exact h
  ·exact h
  ·exact h
  ·refine ⟨fun e=>(by cases e),jo (h.mono fun e w' he=> ?_)⟩
   cases e with
   | returned v=>exact he
   | panicked ch=>exact he.2
   | outgrown=>obtain ⟨_,_,hh⟩:=he;exact absurd rfl hh.1
  ·exact ⟨fun e=>(by cases e),tc h⟩
  ·exact h.2
  ·exact h.elim
 unfold AY at hd
 split at hd
 ·rename_i c ho
  split at hd
  ·rename_i fo hc;unfold JF at hd
   split at hd
   ·rename_i l fi ca e;have hf:=(hs.ev fo).M3 e;obtain ⟨hfi,hd⟩:=hd;obtain rfl:fi = #[]:=Array.eq_empty_of_size_eq_zero hfi;unfold mV at hd
    split at hd
    ·rename_i l' x rest hy;obtain ⟨⟨rfl,hx,hw⟩,h1,h2⟩:=hd
     have hra:fX D nu s.o w x (c.args.map a.eval):=by
      rw [<-hx];refine ⟨by simp,fun i cc v k1 k2=> ?_⟩;rw [Rs] at k1;rw [R8] at k2
      have e2:c.args.toList[i]? = c.args[i]? :=by simp
      rw [e2] at k1
      cases hk2:c.args[i]? with
      | none=>rw [hk2] at k1;cases k1
      | some z=>
       rw [hk2] at k1 k2;cases k1;cases k2;exact hs.ev z
     rw [hy] at hm;obtain ⟨fn,tmps,assign,body,hrun,hround⟩:=m.yield hm hs.ro hra hw;refine ⟨fun f _=>trivial, ?_⟩;rw [Oper.semAt_eq _ _ oo hcalm]
     have hrun':(execOp a.eval oo).run P w = .ok (.round l fn tmps assign body) w:=by
      simp only [execOp,ho,resolve,hc,hf,Deferred.ofValue,Sem.run_bind,Sem.run_pure,Result.andThen_ok,invoke];simpa using hrun
     rw [hrun'];refine ⟨fun e=>(by cases e),(C9 hround).mono fun e w' he=> ?_⟩;obtain ⟨⟨_,_,_,hsz,hkeep⟩,m4⟩:=he
     have fin: ∀b y,m.M (fun b=>D b∧ ¬(w.heap.size<=b∧b<w'.heap.size)) nu s.o f.Z y w'->K ⟨(s.put oo.dst (.v (.bool b)) s.o).t,s.o,y⟩->next (a.put oo.dst (.bool b)) w':=fun b y hM hK=>by
      have h2:=hs.others hsz (fun b hb hh=>hkeep b hb (by rcases hh with h|h|h|h;exact .inl h;exact .inr (.inr (.inl h));exact .inr (.inr (.inr (hZr b h)));exact .inr (.inl h))) y;exact hk _ (.bool b) w' nu ⟨(s.put oo.dst (.v (.bool b)) s.o).t,s.o,y⟩ hM (h2.put (.refl nu s.o w') h2.ro (.v _) oo.dst) hK
     rcases m4 with ⟨rfl,hM⟩|⟨rfl,hM⟩
     ·exact fin true _ hM h1
     ·exact fin false _ hM h2
    ·exact hd.elim
   ·refine plain ?_;rw [ho];unfold vq;simp only [hc];exact hd
  ·exact plain hd
 ·exact plain hd
theorem iV {all:List Oper} {f:Fr} (m:WM P) (hZr: ∀l,f.r=some l->m.fix l) {Q:AS->Prop} {R:Exit->Act->World->Prop}: ∀(ops:List Oper) (s:AS) (a:Act) (w:World) (D:Nat->Prop) (nu:Nat->Nat->Value),(∀oo,oo∈ops-> ∀c,oo.op ≠ .defer c)->m.M D nu s.o f.Z s.y w->RS f D nu s a w->iS P all ops s Q ->
  (∀D' s' a' w' nu',m.M D' nu' s'.o f.Z s'.y w'->RS f D' nu' s' a' w'->Q s'->R .normal a' w')->wpListIn (WF f.r) 9 P all.toArray R ops a w
 | [],s,a,w,D,nu,_,hm,hs,hq,hR=>hR D s a w nu hm hs hq
 | oo :: rest,s,a,w,D,nu,hcalm,hm,hs,hq,hR=>by
  have hrun:AY P oo.op oo.dst s (fun s'=>iS P all rest s' Q)->oo.wpIn (WF f.r) 9 P a w (wpListIn (WF f.r) 9 P all.toArray R rest) R:=fun hd=>
   G6 m hZr (hcalm oo List.mem_cons_self) hm hs hd (fun D' v w' nu' s' m1 m2 m3=>iV m hZr rest s' _ w' D' nu' (fun o ho=>hcalm o (Sb _ ho)) m1 m2 m3 hR)
  have hskip:iS P all rest (s.put oo.dst (.v Go.undef) s.o) Q->wpListIn (WF f.r) 9 P all.toArray R rest (a.put oo.dst Go.undef) w:=fun hd=>
   iV m hZr rest _ _ w D nu (fun o ho=>hcalm o (Sb _ ho)) (by simpa only [AS.put] using hm) (hs.put (.refl nu s.o w) hs.ro (.v _) oo.dst) hd hR
  simp only [iS,rP] at hq;simp only [wpListIn]
  split at hq
  ·rename_i hg
   have:Region.wanted oo (yielded all.toArray a.tmps)=true:=by simp [Region.wanted,hg]
   rw [if_pos this];exact hrun hq
  ·rename_i j want hg;unfold ri at hq
   split at hq
   ·rename_i b e;have hy:=fS (w:=w) (fun d c x _ h1 h2=>hs.tm.at' d c x h1 h2) hs.tm.len e
    have hw:Region.wanted oo (yielded all.toArray a.tmps)=(b==want):=by simp [Region.wanted,hg,hy]
    rw [hw]
    cases hb:b==want
    ·rw [hb] at hq;simp only [Bool.false_eq_true,if_false];exact ⟨fun f _=>trivial,hskip hq⟩
    ·rw [hb] at hq;simp only [if_true];exact hrun hq
   ·rename_i e;have hy:=fS (w:=w) (fun d c x _ h1 h2=>hs.tm.at' d c x h1 h2) hs.tm.len e
    have hw:Region.wanted oo (yielded all.toArray a.tmps)=false:=by simp [Region.wanted,hg,hy]
    rw [hw];simp only [Bool.false_eq_true,if_false];exact ⟨fun f _=>trivial,hskip hq⟩
   ·exact hq.elim
end
end
end Go.Proofs.YtjcobjgjjlahdaaGreatDoor
