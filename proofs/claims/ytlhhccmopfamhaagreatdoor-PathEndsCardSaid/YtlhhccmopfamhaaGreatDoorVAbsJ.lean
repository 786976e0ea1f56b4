/- texts of one claim, one behind the other. -/
import Derived.Test.YtlhhccmopfamhaaGreatDoorVFen
import Derived.Laws.CopyRow
import Derived.Laws.BytesArg
set_option linter.unusedSimpArgs false
set_option linter.unusedVariables false
set_option maxRecDepth 100000
set_option maxHeartbeats 16000000
open Array renaming getElem?_eq_getElem -> aer, getElem?_eq_some_iff -> aeh, getElem?_modify -> aeT, getElem?_map -> aeU, mem_of_getElem? -> aeV
open Bool renaming and_eq_true -> aeW
open List renaming getD_eq_getElem?_getD -> aeS, getElem?_eq_getElem -> aes, getElem?_map -> aeu, mem_of_getElem? -> aeG, getElem?_eq_some_iff -> aek, mem_cons_of_mem -> aeX, getElem?_drop -> aeZ, getElem?_append_left -> aej, getElem?_set_self -> aew, getElem?_append_right -> aeA, length_eq_one_iff -> aeK
open Nat renaming lt_or_ge -> aei, le_refl -> aed, zero_add -> aeY, le_trans -> aee
open Option.some renaming injEq -> aep, inj -> aec
open Prod.mk renaming injEq -> aeq
namespace Go.Proofs.YtlhhccmopfamhaaGreatDoor
open Go.RowKit
section
variable {D:Nat->Prop} {nu:EQ} {o:AC} {w:World} {P:Program}
def pD(op:BinOp)(k:IntKind)(a b:Int):Option (Prop×AV):=match op with
 | .shl=>some (0<=b,.v (.int k (k.wrap (a*2 ^ min b.toNat k.bits))))
 | .shr=>some (0<=b,.v (.int k (a.fdiv (2 ^ min b.toNat k.bits))))
 |_=>none
def Ps(k:IntKind)(a b:Int):Int:=k.wrap (BitVec.ofInt k.bits a &&& BitVec.ofInt k.bits b).toNat
def iOr(k:IntKind)(a b:Int):Int:=k.wrap (BitVec.ofInt k.bits a ||| BitVec.ofInt k.bits b).toNat
def Y5(k:IntKind)(a b:Int):Int:=k.wrap (BitVec.ofInt k.bits a ^^^ BitVec.ofInt k.bits b).toNat
def xa(k:IntKind)(a b:Int):Int:=k.wrap (BitVec.ofInt k.bits a &&& ~~~ BitVec.ofInt k.bits b).toNat
def SA(op:BinOp)(k:IntKind)(a b:Int):Option (Prop×AV):=match op with
 | .add=>some (True,.v (.int k (k.wrap (a+b))))
 | .sub=>some (True,.v (.int k (k.wrap (a-b))))
 | .mul=>some (True,.v (.int k (k.wrap (a*b))))
 | .quo=>some (b≠0,.v (.int k (k.wrap (a.tdiv b))))
 | .rem=>some (b≠0,.v (.int k (a.tmod b)))
 | .and=>some (True,.v (.int k (Ps k a b)))
 | .or=>some (True,.v (.int k (iOr k a b)))
 | .xor=>some (True,.v (.int k (Y5 k a b)))
 | .andNot=>some (True,.v (.int k (xa k a b)))
 | .eql=>some (True,.v (.bool (a==b)))
 | .neq=>some (True,.v (.bool (a !=b)))
 | .lss=>some (True,.v (.bool (decide (a<b))))
 | .leq=>some (True,.v (.bool (decide (a<=b))))
 | .gtr=>some (True,.v (.bool (decide (b<a))))
 | .geq=>some (True,.v (.bool (decide (b<=a))))
 | .shl=>pD .shl k a b
 | .shr=>pD .shr k a b
def SC(op:BinOp)(a b:ByteArray):Option (Prop×AV):=match op with
 | .add=>some (a.size+b.size<=4611686018427387904,.v (.string (a++b)))
 | .eql=>some (True,.v (.bool (a.toList==b.toList)))
 | .neq=>some (True,.v (.bool (!(a.toList==b.toList))))
 | .lss=>some (True,.v (.bool (Op.bytesLess a.toList b.toList)))
 | .leq=>some (True,.v (.bool (Op.bytesLess a.toList b.toList||a.toList==b.toList)))
 | .gtr=>some (True,.v (.bool (!(Op.bytesLess a.toList b.toList||a.toList==b.toList))))
 | .geq=>some (True,.v (.bool (!(Op.bytesLess a.toList b.toList))))
 |_=>none
def yz(P:Program)(T:TypeId):Bool:=match P.underlying T with
 |some (.pointer _)=>true
 |_=>false
def A5(P:Program)(T:TypeId):Bool:=match P.underlying T with
 |some (.slice _)=>true
 |_=>false
def isFun(P:Program)(T:TypeId):Bool:=match P.underlying T with
 |some (.func _ _ _)=>true
 |_=>false
def Sz(P:Program)(op:BinOp)(T:TypeId):AV->AV->Option (Prop×AV)
 | .v (.int k a),.v (.int k' b)=>match op with
  | .shl=>pD .shl k a b
  | .shr=>pD .shr k a b
  |_=>if k=k' then SA op k a b else none
 | .v (.string a),.v (.string b)=>SC op a b
 | .v (.bool a),.v (.bool b)=>match P.underlying T,op with
  |some .bool,.eql=>some (True,.v (.bool (a==b)))
  |some .bool,.neq=>some (True,.v (.bool (!(a==b))))
  |_,_=>none
 | .agg cs,.agg ds=>match lW P T,op with
  |some ks,.eql=>(lE ks cs ds).map λr=>(True,.v (.bool r))
  |some ks,.neq=>(lE ks cs ds).map λr=>(True,.v (.bool (!r)))
  |_,_=>none
 | .v (.pointer none),.v (.pointer none)=>if yz P T then match op with
  | .eql=>some (True,.v (.bool true))
  | .neq=>some (True,.v (.bool false))
  |_=>none else none
 | .vp _,.v (.pointer none)=>if yz P T then match op with
  | .eql=>some (True,.v (.bool false))
  | .neq=>some (True,.v (.bool true))
  |_=>none else none
 | .ptr _ _ _ _ _,.v (.pointer none)=>if yz P T then match op with
  | .eql=>some (True,.v (.bool false))
  | .neq=>some (True,.v (.bool true))
  |_=>none else none
 | .aA _ rows _,.v (.slice none 0 0)=>if A5 P T then match op with
  | .eql=>some (rows≠[],.v (.bool false))
  | .neq=>some (rows≠[],.v (.bool true))
  |_=>none else none
 | .v (.slice none 0 0),.v (.slice none 0 0)=>if A5 P T then match op with
  | .eql=>some (True,.v (.bool true))
  | .neq=>some (True,.v (.bool false))
  |_=>none else none
 | .fn _ _ _,.v .nilFunc=>if isFun P T then match op with
  | .eql=>some (True,.v (.bool false))
  | .neq=>some (True,.v (.bool true))
  |_=>none else none
 |_,_=>none
theorem S8{op:BinOp}{T:TypeId}{k:IntKind}{a b:Int}{p:Prop}{r:AV}(h:SA op k a b=some (p,r))(q:p):∃v,(binOp op T (.int k a) (.int k b)).run P w=.ok v w∧r=.v v:=by
 cases op<;>simp only[SA,pD,Ps,iOr,Y5,xa,aep,aeq]at h<;>obtain⟨rfl,rfl⟩:=h<;>refine⟨_,?_,rfl⟩ <;>
  simp[binOp,Op.intArith,Op.intDiv,Op.intBits,Op.intCmp,Op.shift]<;>first|omega|omega
theorem Rv{op:BinOp}{T:TypeId}{a b:ByteArray}{p:Prop}{r:AV}(h:SC op a b=some (p,r))(q:p):∃v,(binOp op T (.string a) (.string b)).run P w=.ok v w∧r=.v v:=by
 cases op<;>simp only[SC,aep,aeq,reduceCtorEq]at h<;>obtain⟨rfl,rfl⟩:=h<;>refine⟨_,?_,rfl⟩ <;>
  simp[binOp,Op.stringOp]
 omega
theorem pN{op:BinOp}{T:TypeId}{X Y:Operand}{x y:Value}(h:∀xs ys, ¬(x=.agg xs∧y=.agg ys))(q:x ≠ .nilIface):(eqGuard op T X Y x y).run P w=.ok () w:=by
 unfold eqGuard
 simp_all
theorem EX(d:Nat){T e:TypeId}(q:P.underlying T=some (.pointer e))(ad:Addr):(Op.equalIn (d+1) T (.pointer (some ad)) (.pointer none)).run P w=.ok false w:=by
 simp[Op.equalIn,run_underlying q]
theorem EW(d:Nat){T e:TypeId}(q:P.underlying T=some (.pointer e)):(Op.equalIn (d+1) T (.pointer none) (.pointer none)).run P w=.ok true w:=by
 simp[Op.equalIn,run_underlying q]
theorem yg{T:TypeId}{x y:Value}{b:Bool}(q:binOp .eql T x y=(do pure (.bool (<-Op.equal T x y))))(h:(Op.equalIn 10000 T x y).run P w=.ok b w):(binOp .eql T x y).run P w=.ok (.bool b) w:=by
 grind[Op.equal,Op.maxDepth,Sem.run_bind,Result.andThen_ok,Sem.run_pure]
theorem yT{T:TypeId}{x y:Value}{b:Bool}(q:binOp .neq T x y=(do pure (.bool (!(<-Op.equal T x y)))))(h:(Op.equalIn 10000 T x y).run P w=.ok b w):(binOp .neq T x y).run P w=.ok (.bool (!b)) w:=by
 grind[Op.equal,Op.maxDepth,Sem.run_bind,Result.andThen_ok,Sem.run_pure]
theorem Bq{a:AV}{x:Value}(q:RA D nu o w a x)(h:(∃cs,a=.vp cs)∨∃i l z r f,a=.ptr i l z r f):∃ad,x=.pointer (some ad):=by
 rcases h with⟨cs,rfl⟩|⟨i,l,z,r,f,rfl⟩
 ·cases q;grind
 ·cases q;grind
theorem xj{T:TypeId}{ad:Addr}(q:yz P T=true):(binOp .eql T (.pointer (some ad)) (.pointer none)).run P w=.ok (.bool false) w∧(binOp .neq T (.pointer (some ad)) (.pointer none)).run P w=.ok (.bool true) w:=by
 unfold yz at q
 split at q
 ·rename_i e u;exact⟨yg rfl (EX 9999 u ad),yT rfl (EX 9999 u ad)⟩
 ·cases q
theorem Kf(d:Nat){T e:TypeId}(q:P.underlying T=some (.slice e))(a:Option Addr)(n c:Nat):(Op.equalIn (d+1) T (.slice a n c) (.slice none 0 0)).run P w=.ok a.isNone w:=by
 cases a<;>simp[Op.equalIn,run_underlying q]
theorem vw{T:TypeId}{a:Option Addr}{n c:Nat}(q:A5 P T=true):(binOp .eql T (.slice a n c) (.slice none 0 0)).run P w=.ok (.bool a.isNone) w∧(binOp .neq T (.slice a n c) (.slice none 0 0)).run P w=.ok (.bool (!a.isNone)) w:=by
 unfold A5 at q
 split at q
 ·rename_i e u;exact⟨yg rfl (Kf 9999 u a n c),yT rfl (Kf 9999 u a n c)⟩
 ·cases q
theorem Ke(d:Nat){T:TypeId}{ps rs:Array TypeId}{v:Bool}(q:P.underlying T=some (.func ps rs v))(fn:Fn)(a b:Array Value):(Op.equalIn (d+1) T (.func fn a b) .nilFunc).run P w=.ok false w:=by
 simp[Op.equalIn,run_underlying q]
theorem Pa{T:TypeId}{fn:Fn}{a b:Array Value}(q:isFun P T=true):(binOp .eql T (.func fn a b) .nilFunc).run P w=.ok (.bool false) w∧(binOp .neq T (.func fn a b) .nilFunc).run P w=.ok (.bool true) w:=by
 unfold isFun at q
 split at q
 ·rename_i e u;exact⟨yg rfl (Ke 9999 u fn a b),yT rfl (Ke 9999 u fn a b)⟩
 ·cases q
theorem OA{op:BinOp}{T:TypeId}{a b:AV}{x y:Value}(A:RA D nu o w a x)(u:RA D nu o w b y){p:Prop}{r:AV}(h:Sz P op T a b=some (p,r))(V:p)(X Y:Operand) :
  ∃v,(binOp op T x y).run P w=.ok v w∧RA D nu o w r v∧(eqGuard op T X Y x y).run P w=.ok () w:=by
 have fin:∀(rr:AV),(∃v,(binOp op T x y).run P w=.ok v w∧rr=.v v)->rr=r->((∀xs ys, ¬(x=.agg xs∧y=.agg ys))∧x ≠ .nilIface)->∃v,(binOp op T x y).run P w=.ok v w∧RA D nu o w r v∧(eqGuard op T X Y x y).run P w=.ok () w:=by
  rintro rr ⟨v,h1,h2⟩ h3 ⟨h4,h5⟩;subst h3;subst h2;exact⟨v,h1,.v v,pN h4 h5⟩
 unfold Sz at h
 split at h
 ·obtain rfl:=A.di;obtain rfl:=u.di;refine fin r ?_ rfl ⟨λxs ys e=>(by cases e.1),λe=>by cases e⟩
  split at h
  ·simp only[pD,aep,aeq]at h;obtain⟨rfl,rfl⟩:=h;exact⟨_,by simp[binOp,Op.shift];omega,rfl⟩
  ·simp only[pD,aep,aeq]at h;obtain⟨rfl,rfl⟩:=h;exact⟨_,by simp[binOp,Op.shift];omega,rfl⟩
  ·split at h
   ·rename_i hk;subst hk;exact S8 h V
   ·cases h
 ·obtain rfl:=A.di;obtain rfl:=u.di;exact fin r (Rv h V) rfl ⟨λxs ys e=>(by cases e.1),λe=>by cases e⟩
 ·obtain rfl:=A.di;obtain rfl:=u.di;refine fin r ?_ rfl ⟨λxs ys e=>(by cases e.1),λe=>by cases e⟩
  split at h
  ·rename_i O;simp only[aep,aeq]at h;obtain⟨rfl,rfl⟩:=h;exact⟨_,yg rfl (run_equalIn_bool' w 9999 T _ _ O),rfl⟩
  ·rename_i O;simp only[aep,aeq]at h;obtain⟨rfl,rfl⟩:=h;exact⟨_,yT rfl (run_equalIn_bool' w 9999 T _ _ O),rfl⟩
  ·cases h
 ·rename_i cs ds;have key:=λks rr h1 h2=>pB (P:=P) (T:=T) (ks:=ks) (rr:=rr) h1 h2 A u
  split at h
  ·rename_i ks W
   cases U:lE ks cs ds with
   |none=>grind
   |some rr=>
    rw[U]at h;simp only[Option.map_some,aep,aeq]at h;obtain⟨rfl,rfl⟩:=h;obtain⟨xs,ys,rfl,rfl,hg,hq⟩:=key ks rr W U;exact⟨.bool rr,by rw[run_eql_struct,hq];rfl,.v _,run_eqGuard_agg w _ T X Y xs ys hg⟩
  ·rename_i ks W
   cases U:lE ks cs ds with
   |none=>grind
   |some rr=>
    rw[U]at h;simp only[Option.map_some,aep,aeq]at h;obtain⟨rfl,rfl⟩:=h;obtain⟨xs,ys,rfl,rfl,hg,hq⟩:=key ks rr W U;exact⟨.bool (!rr),by rw[run_neq_struct,hq];rfl,.v _,run_eqGuard_agg w _ T X Y xs ys hg⟩
  ·cases h
 ·obtain rfl:=A.di;obtain rfl:=u.di;refine fin r ?_ rfl ⟨λxs ys e=>(by cases e.1),λe=>by cases e⟩
  split at h
  ·rename_i q;unfold yz at q
   split at q
   ·rename_i e O
    split at h
    ·cases h;exact⟨_,yg rfl (EW 9999 O),rfl⟩
    ·cases h;exact⟨_,yT rfl (EW 9999 O),rfl⟩
    ·cases h
   ·cases q
  ·cases h
 ·obtain rfl:=u.di;obtain⟨ad,rfl⟩:=Bq A (.inl ⟨_,rfl⟩);refine fin r ?_ rfl ⟨λxs ys e=>(by cases e.1),λe=>by cases e⟩
  split at h
  ·rename_i q
   split at h
   ·grind[xj]
   ·cases h;exact⟨_,(xj q).2,rfl⟩
   ·cases h
  ·cases h
 ·obtain rfl:=u.di;obtain⟨ad,rfl⟩:=Bq A (.inr ⟨_,_,_,_,_,rfl⟩);refine fin r ?_ rfl ⟨λxs ys e=>(by cases e.1),λe=>by cases e⟩
  split at h
  ·rename_i q
   split at h
   ·grind[xj]
   ·cases h;exact⟨_,(xj q).2,rfl⟩
   ·cases h
  ·cases h
 ·rename_i z rows len;obtain rfl:=u.di
  split at h
  ·rename_i q
   have H:rows≠[]->∃ad n c,x=.slice (some ad) n c:=λH=>by
    cases A with
    |b6=>grind
    |cp=>grind
    |aA _ _ _ b off cap f=>grind
   split at h
   ·cases h;obtain⟨ad,n,c,rfl⟩:=H V;exact fin _ ⟨_,(vw q).1,rfl⟩ rfl ⟨λxs ys e=>(by cases e.1),λe=>by cases e⟩
   ·cases h;obtain⟨ad,n,c,rfl⟩:=H V;exact fin _ ⟨_,(vw q).2,rfl⟩ rfl ⟨λxs ys e=>(by cases e.1),λe=>by cases e⟩
   ·cases h
  ·cases h
 ·obtain rfl:=A.di;obtain rfl:=u.di;refine fin r ?_ rfl ⟨λxs ys e=>(by cases e.1),λe=>by cases e⟩
  split at h
  ·rename_i q
   split at h
   ·grind[vw]
   ·cases h;exact⟨_,(vw q).2,rfl⟩
   ·cases h
  ·cases h
 ·obtain rfl:=u.di
  split at h
  ·rename_i q
   cases A with
   |fn g first caps fi ca=>
    split at h
    ·cases h;exact fin _ ⟨_,(Pa q).1,rfl⟩ rfl ⟨λxs ys e=>(by cases e.1),λe=>by cases e⟩
    ·cases h;exact fin _ ⟨_,(Pa q).2,rfl⟩ rfl ⟨λxs ys e=>(by cases e.1),λe=>by cases e⟩
    ·cases h
  ·cases h
 ·cases h
def aUn(op:UnOp):AV->Option AV
 | .v (.bool b)=>match op with
  | .not=>some (.v (.bool (!b)))
  |_=>none
 | .v (.int k n)=>match op with
  | .neg=>some (.v (.int k (k.wrap (0-n))))
  |_=>none
 |_=>none
theorem U2{op:UnOp}{a:AV}{x:Value}(q:RA D nu o w a x){r:AV}(h:aUn op a=some r):∃v,(Op.unary op x).run P w=.ok v w∧RA D nu o w r v:=by
 unfold aUn at h
 split at h
 ·obtain rfl:=q.di
  split at h
  ·cases h;exact⟨_,rfl,.v _⟩
  ·cases h
 ·obtain rfl:=q.di
  split at h
  ·cases h;exact⟨_,rfl,.v _⟩
  ·cases h
 ·cases h
def El(P:Program)(src dst:TypeId):AV->Option AV
 | .v (.int _ n)=>match P.underlying src,P.underlying dst with
  |some _,some (.int k)=>some (.v (.int k (k.wrap n)))
  |_,_=>none
 | .v (.string s)=>match P.underlying src,P.underlying dst with
  |some .string,some .string=>some (.v (.string s))
  |_,_=>none
 |_=>none
theorem AD{src dst:TypeId}{a:AV}{x:Value}(A:RA D nu o w a x){r:AV}(h:El P src dst a=some r):∃v,(convert src dst x).run P w=.ok v w∧RA D nu o w r v:=by
 unfold El at h
 split at h
 ·obtain rfl:=A.di
  split at h
  ·rename_i d k u q;cases h;exact⟨_,by simp[convert,run_underlying u,run_underlying q,Conv.intToInt],.v _⟩
  ·cases h
 ·obtain rfl:=A.di
  split at h
  ·rename_i u q;cases h;exact⟨_,by simp[convert,run_underlying u,run_underlying q],.v _⟩
  ·cases h
 ·cases h
def bytesOf:List C5->Option M2
 | []=>some []
 | [.v (.int .u8 n)]::l=>match bytesOf l with
  |some ns=>some (n::ns)
  |none=>none
 |_=>none
theorem sM:∀{rows:List C5}{ns:M2},bytesOf rows=some ns->rows=ns.map (λn=>[AV.v (.int .u8 n)])
 | [],ns,h=>by cases h;rfl
 |row::l,ns,h=>by
  unfold bytesOf at h
  split at h
  ·rename_i e;cases e
  ·rename_i n u e;cases e
   split at h
   ·rename_i q e';cases h;rw[sM e'];rfl
   ·cases h
  ·cases h
def Cd(P:Program)(o:AC)(src dst:TypeId)(a:AV):Option (Prop×AV):=match P.underlying src,P.underlying dst with
 |some (.slice e),some .string=>match P.underlying e,rD o 1 a with
  |some (.int .u8),some (p,rows)=>match bytesOf rows with
   |some ns=>some (p,.v (.string ⟨(ns.map (λn=>UInt8.ofNat n.toNat)).toArray⟩))
   |none=>none
  |_,_=>none
 |_,_=>none
theorem zi:∀(ns:M2)(r:ByteArray),ns.foldl (λr n=>r.push (UInt8.ofNat n.toNat)) r=⟨r.data++(ns.map (λn=>UInt8.ofNat n.toNat)).toArray⟩
 | [],r=>zk
 |n::ns,r=>by
  simp only[List.foldl_cons];rw[zi ns];simp[ByteArray.push]
theorem Ic{src dst:TypeId}(h:RO D nu o w){a:AV}{x:Value}(W:RA D nu o w a x){p:Prop}{r:AV}(q:Cd P o src dst a=some (p,r))(Y:p):∃v,(convert src dst x).run P w=.ok v w∧RA D nu o w r v:=by
 unfold Cd at q
 split at q
 ·rename_i e H U
  split at q
  ·rename_i p' rows O A
   split at q
   ·rename_i ns hns;simp only[aep,aeq]at q;obtain⟨rfl,rfl⟩:=q;obtain rfl:=sM hns
    rcases lV h zs W A Y with⟨rfl,h0⟩|⟨g,c,news,rfl,V,hcell⟩
    ·obtain rfl:ns=[]:=by simp_all
     exact⟨_,run_convert_bytes_nil w src e H O 0 0 dst U,.v _⟩
    ·have hlen:news.length=ns.length:=by have:=V.len;grind
     have hnews:news=ns.map (Value.int .u8):=by
      refine List.ext_getElem? (λi=>?_)
      rcases aei i ns.length with hi|hi
      ·obtain⟨u,h1,h2⟩:=V.cell i 0 [.v (.int .u8 ns[i])] _ (by simp[hi]) rfl;obtain rfl:=h2.di
       grind
      grind
     subst hnews;have hl:=run_loadCells_list (P:=P) w g (ns.map (Value.int .u8)) (λj v hj=>hcell j v hj);simp only[List.length_map]at hl;refine⟨_,?_,.v _⟩;rw[run_convert_bytes_string w src dst e _ _ c H O U];simp only[List.length_map];rw[run_bytesToString w g ns.length c ns hl,zi]
     simp_all
   ·cases q
  ·cases q
 ·cases q
def ky(s:ByteArray)(i:Nat):Nat:=(s.data.toList.getD i 0).toNat
def Cg(P:Program)(T:TypeId):AV->AV->Option (Prop×AV)
 | .v (.string s),.v (.int _ i)=>match P.underlying T with
  |some .string=>some (0<=i∧i<s.size,.v (.int .u8 (ky s i.toNat)))
  |_=>none
 | .agg cs,.v (.int _ i)=>match P.underlying T with
  |some (.array n e)=>match dc P e,bR P e with
   |some false,some z=>match cs[i.toNat*z]? with
    |some c=>some (0<=i∧i<n,c)
    |none=>none
   |some true,some z=>some ((0<=i∧i<n)∧i.toNat*z+z<=cs.length,.agg ((cs.drop (i.toNat*z)).take z))
   |_,_=>none
  |_=>none
 |_,_=>none
theorem ID{T:TypeId}{a i:AV}{x y:Value}(u:RA D nu o w a x)(Y:RA D nu o w i y){p:Prop}{r:AV}(h:Cg P T a i=some (p,r))(U:p):∃v,(Instr.index T x y).run P w=.ok v w∧RA D nu o w r v:=by
 unfold Cg at h
 split at h
 ·rename_i s k i';obtain rfl:=u.di;obtain rfl:=Y.di
  split at h
  ·rename_i H;cases h;obtain⟨h1,h2⟩:=U
   have q:i'.toNat<s.size:=zd
   have e:s[i'.toNat]?=some s[i'.toNat]:=by simp[q]
   have A:(s.data.toList.getD i'.toNat 0)=s[i'.toNat]:=by
    have hl:i'.toNat<s.data.toList.length:=by simp_all
    rw[aeS,aes hl]
    rfl
   refine⟨_,?_,.v _⟩;simp only[Instr.index,asIntOf,Sem.run_bind,Sem.run_pure,Result.andThen_ok,run_underlying H,h1,if_true,e,ky,A]
  ·cases h
 ·rename_i cs k i';obtain rfl:=Y.di
  split at h
  ·rename_i n e H
   split at h
   ·rename_i z V A
    split at h
    ·rename_i c hc;cases h
     cases u with
     |agg _ xs k1 W k3=>
     have q:i'.toNat*z<xs.size:=by grind
     have u:xs[i'.toNat*z]?=some xs[i'.toNat*z]:=aer q;refine⟨xs[i'.toNat*z],?_,W _ _ _ hc u⟩;simp[Instr.index,asIntOf,run_underlying H,U,part,iR V,run_sizeOf A,u]
    ·cases h
   ·rename_i z V A;cases h;obtain⟨O,hp2⟩:=U
    cases u with
    |agg _ xs k1 W k3=>
    refine⟨.agg (xs.extract (i'.toNat*z) (i'.toNat*z+z)),by simp[Instr.index,asIntOf,run_underlying H,O,part,iR V,run_sizeOf A],.agg _ _ ahn (λj c x h1 h2=>?_) (λj x h2=>?_)⟩
    ·grind
    grind[Array.getElem?_extract]
   ·cases h
  ·cases h
 ·cases h
def sx(i:Nat):AV->Option AV
 | .ck vs=>vs[i]?
 |_=>none
theorem Cy{i:Nat}{a:AV}{x:Value}(u:RA D nu o w a x){r:AV}(h:sx i a=some r):∃v,(Instr.extract x i).run P w=.ok v w∧RA D nu o w r v:=by
 unfold sx at h
 split at h
 ·cases u with
  |ck _ xs H A=>
   have q:i<xs.size:=by grind
   have e:xs[i]?=some xs[i]:=aer q;exact⟨xs[i],by simp[Instr.extract,e],A i r _ h e⟩
 ·cases h
def Ob(P:Program)(T:TypeId):AV->Option AV
 | .aA _ _ len=>match P.underlying T with
  |some (.slice _)=>some (.v (.int .i64 len))
  |_=>none
 | .v (.string s)=>match P.underlying T with
  |some .string=>some (.v (.int .i64 s.size))
  |_=>none
 | .v (.slice none 0 0)=>match P.underlying T with
  |some (.slice _)=>some (.v (.int .i64 0))
  |_=>none
 | .mp rows=>match P.underlying T with
  |some (.map _ _)=>some (.v (.int .i64 rows.length))
  |_=>none
 |_=>none
def JT(P:Program)(T:TypeId)(o:AC):AV->Option (Prop×AV)
 | .vec id len=>match o[id]?,P.underlying T with
  |some (some ob),some (.slice _)=>some (ob.fc=true∧ob.rows.length=len,.v (.int .i64 len))
  |some (some ob),some (.map _ _)=>some (ob.fc=false∧ob.z=0∧len=0,.v (.int .i64 ob.rows.length))
  |_,_=>none
 |a=>(Ob P T a).map λr=>(True,r)
theorem PX{T:TypeId}(ty:TypeId){a:AV}{x:Value}(V:RO D nu o w)(u:RA D nu o w a x){p:Prop}{r:AV}(h:JT P T o a=some (p,r))(W:p):∃v,(Builtin.len_ #[T] ty #[x]).run P w=.ok v w∧RA D nu o w r v:=by
 have plain:∀a,RA D nu o w a x->∀r,Ob P T a=some r->∃v,(Builtin.len_ #[T] ty #[x]).run P w=.ok v w∧RA D nu o w r v:=by
  intro a u r h;unfold Ob at h
  split at h
  ·split at h
   ·rename_i q;cases h
    cases u with
    |b6=>exact⟨_,by simp[Builtin.len_,run_underlying q,goInt],.v _⟩
    |cp=>exact⟨_,by simp[Builtin.len_,run_underlying q,goInt],.v _⟩
    |aA=>exact⟨_,by simp[Builtin.len_,run_underlying q,goInt],.v _⟩
   ·cases h
  ·obtain rfl:=u.di
   split at h
   ·rename_i q;cases h;exact⟨_,by simp[Builtin.len_,run_underlying q,goInt],.v _⟩
   ·cases h
  ·obtain rfl:=u.di
   split at h
   ·rename_i q;cases h;exact⟨_,by simp[Builtin.len_,run_underlying q,goInt],.v _⟩
   ·cases h
  ·split at h
   ·rename_i q;cases h
    cases u with
    |mp _ b es cl h1 h2 h3=>exact⟨.int .i64 es.size,by simp[Builtin.len_,run_underlying q,MapKept.run_getObj_map h2,goInt],by rw[h3];exact .v _⟩
   ·cases h
  ·cases h
 unfold JT at h
 split at h
 ·rename_i id len
  split at h
  ·rename_i ob e U q;cases h;obtain⟨hv,rfl⟩:=W;cases u;obtain⟨xs,H,_⟩:=V.xi U hv
   rcases H.2 with⟨O,Y⟩|⟨g,cap,cur,O,_⟩
   ·rw[O];refine⟨.int .i64 0,by simp[Builtin.len_,run_underlying q,goInt],?_⟩;rw[Y];exact .v _
   ·rw[O];exact⟨_,by simp[Builtin.len_,run_underlying q,goInt],.v _⟩
  ·rename_i ob O Y U q;cases h;obtain⟨hV,hz,rfl⟩:=W;cases u
   rcases V.obj id ob U with⟨q1,_⟩|⟨g,cur,hb⟩|⟨g,es,cl,A⟩
   ·grind
   ·have:=hb.z;omega
   ·rw[A.wH];exact⟨.int .i64 es.size,by simp[Builtin.len_,run_underlying q,MapKept.run_getObj_map A.ez,goInt],by rw[A.sz];exact .v _⟩
  ·cases h
 ·cases hl:Ob P T a with
  |none=>grind
  |some r1=>
   grind
end
def AS.ev(s:AS):Operand->AV
 | .tmp t=>s.t.getD t .undef
 | .const v=> .v v
 | .global g=>match AQ g with
  |some (_,cs)=> .vp (cs.toList.map .v)
  |none=> .v (.pointer (some ⟨g,0,none⟩))
 | .func f=> .fn f [] []
theorem w9{D:Nat->Prop}{nu:EQ}{o:AC}{w:World}(h:RO D nu o w)(s:AS)(g:Nat):RA D nu o w (s.ev (.global g)) (.pointer (some ⟨g,0,none⟩)):=by
 rw[AS.ev]
 split
 ·rename_i T cs hg;obtain⟨⟨_,U⟩,O,H⟩:=h.gl g T cs hg;refine .vp _ g 0 (λj=>cs.getD j Go.undef) ⟨(aeh.1 U).1,O,H⟩ (λj c q=>?_) (λj c q=>?_) (λj c q=>?_)
  all_goals
   rw[aeu,Array.getElem?_toList]at q
   cases A:cs[j]? with
   |none=>grind
   |some x=>?_
   rw[A]at q;obtain rfl:=Option.some.inj q
   have u:cs.getD j Go.undef=x:=by simp_all
  ·grind[World.cell?]
  ·rw[u];exact .v x
  grind[Mg]
 ·exact .v _
def AS.put(s:AS)(dst:Option Tmp)(r:AV)(o':AC):AS:=⟨match dst with|some d=>s.t.set d r|none=>s.t,o',s.y⟩
def ux(P:Program)(ev:Operand->AV)(o:AC):Builtin->List Operand->List TypeId->Option (Prop×AV)
 | .len,[x],[T]=>JT P T o (ev x).st
 | .min,[x,y],_=>match ev x,ev y with
  | .v (.int k a),.v (.int _ b)=>some (True,.v (.int k (if b<a then b else a)))
  |_,_=>none
 | .max,[x,y],_=>match ev x,ev y with
  | .v (.int k a),.v (.int _ b)=>some (True,.v (.int k (if b > a then b else a)))
  |_,_=>none
 |_,_,_=>none
def zV(P:Program)(ev:Operand->AV)(o:AC):Op->Option (Prop×AV)
 | .move x| .assign x=>some (True,ev x)
 | .nilCheck x=>match ev x with
  | .vp cs=>some (True,.vp cs)
  | .ptr id len z row off=>some (True,.ptr id len z row off)
  | .fn g f c=>some (True,.fn g f c)
  |_=>none
 | .build T parts=>match ru P T (parts.toList.map λp=>(p.1,ev p.2))with
  |some r=>some (True,r)
  |none=>none
 | .load T x=>En P T o (ev x)
 | .binOp op T x y _=>Sz P op T (ev x) (ev y)
 | .unOp op _ x=>match aUn op (ev x)with
  |some r=>some (True,r)
  |none=>none
 | .convert src dst x=>match El P src dst (ev x)with
  |some r=>some (True,r)
  |none=>none
 | .makeFunc (.func f) first caps=>some (True,.fn f (first.toList.map ev) (caps.toList.map ev))
 | .fieldAddr T x f=>match nC P T f (ev x)with
  |some r=>some (True,r)
  |none=>none
 | .field T x f=>Ce P T f (ev x)
 | .indexAddr T x i=>nE P T o (ev x).st (ev i)
 | .index T x i=>Cg P T (ev x) (ev i)
 | .lookup T m k ok=>Eo P T o (ev m) (ev k) ok
 | .extract x i=>match sx i (ev x)with
  |some r=>some (True,r)
  |none=>none
 | .call c=>match c.callee with
  | .builtin b=>ux P ev o b c.args.toList c.argTypes.toList
  |_=>none
 |_=>none
def xE(P:Program)(ev:Operand->AV)(o:AC):List Operand->List TypeId->Option (Prop×AV×AC)
 | [x,y],[T,T']=>if T=T' then wQ P T o (ev x) (ev y).st else none
 |_,_=>none
def JR(P:Program)(T:TypeId)(o:AC)(a b:AV):Option (Prop×AV×AC):=
 match jO P T,a with
 |some (e,z,bytes),.vec id len=>match o[id]?,rD o z b with
  |some (some ob),some (p,rows2)=>some ((ob.fc=true∧ob.z=z∧ob.T=e∧ob.rows.length=len)∧p∧rows2.length=len,.v (.int .i64 (len:Nat)),o.set id (some {ob with rows:=rows2}))
  |_,_=>none
 |_,_=>none
def Hn(P:Program)(ev:Operand->AV)(o:AC):List Operand->List TypeId->Option (Prop×AV×AC)
 | [x,y],[T,T']=>if T=T' then JR P T o (ev x) (ev y).st else none
 |_,_=>none
section
variable {D:Nat->Prop} {nu:EQ} {o:AC} {w:World}
theorem Jm{P:Program}(w:World)(T ty e:TypeId){i:TypeInfo}(A:P.underlying T=some (.slice e))(hi:P.info? e=some i)(g n dcap:Nat)(a:Addr)(scap:Nat)(cur:Array Value)(t:TypeId)(news:Id)
  (O:w.heap[g]?=some (.cells cur t (0,0)))(U:news.length=n*i.size)(hcell:∀j u,news[j]?=some u->w.cell? (a.add j)=some u)(H:news.length<=cur.size)(V:∀v∈news,v.oneCell'=true) :
  (Builtin.copy_ #[T,T] ty #[.slice (some ⟨g,0,none⟩) n dcap,.slice (some a) n scap]).run P w=.ok (goInt n) (w.setRow g (news++cur.toList.drop news.length).toArray):=by
 have hl:=run_loadCells_list (P:=P) w a news hcell;have q:=run_storeCells_at P g 0 t news 0 cur w O zd V;simp only[Nat.zero_add,List.take_zero,List.nil_append]at q;simp[Builtin.copy_,run_underlying A,Builtin.lenOf,Builtin.firstCells,sizeOf,typeInfo,hi, <- U,hl,q]
theorem Jl{P:Program}(w:World)(T ty e:TypeId){i:TypeInfo}(q:P.underlying T=some (.slice e))(hi:P.info? e=some i)(d a:Option Addr)(dcap scap:Nat) :
  (Builtin.copy_ #[T,T] ty #[.slice d 0 dcap,.slice a 0 scap]).run P w=.ok (goInt 0) w:=by
 have hl:∀(x:Addr),(loadCells x 0).run P w=.ok #[] w:=λx=>by simpa using run_loadCells_list (P:=P) w x [] zk
 cases d<;>cases a<;>simp[Builtin.copy_,run_underlying q,Builtin.lenOf,Builtin.firstCells,sizeOf,typeInfo,hi,storeCells,hl]
theorem Mh{P:Program}{T:TypeId}(ty:TypeId){e:TypeId}{z bytes:Nat}(ht:jO P T=some (e,z,bytes))(h:RO D nu o w){id:Nat}{ob:aa}(ho:o[id]?=some (some ob))(hv:ob.fc=true)(hz:ob.z=z)(hT:ob.T=e){b:AV}{y:Value}(hs:RA D nu o w b y)
  {p:Prop}{rows2:List C5}(e2:rD o z b=some (p,rows2))(hp:p)(hlen:rows2.length=ob.rows.length) :
  Good D nu o w ((Builtin.copy_ #[T,T] ty #[nu id ob.rows.length,y]).run P w) (.v (.int .i64 (ob.rows.length:Nat))) (o.set id (some {ob with rows:=rows2})):=by
 obtain⟨hu,i,zv,hi,hzv,hzs,hz0,hsize,hbytes⟩:=gw ht;obtain⟨xs,V,hL,hob⟩:=h.xi ho hv
 have hhl:ob.hl=ob.rows.length:=by grind[aa.hl]
 have none':rows2=[]->o.set id (some {ob with rows:=rows2})=o:=λH=>by
  subst H;have hr0:ob.rows=[]:=List.eq_nil_of_length_eq_zero (by grind)
  have e1:({ob with rows:=[]}:aa)=ob:=by rw[<-hr0]
  rw[e1]
  apply List.ext_getElem?
  grind
 have shape:∃d dcap,nu id ob.rows.length=.slice d ob.rows.length dcap:=by
  rcases V.2 with⟨e4,e5⟩|⟨g',cap,cur,e4,_⟩
  ·grind
  grind
 have zero:rows2=[]->∀a c,y=.slice a 0 c->Good D nu o w ((Builtin.copy_ #[T,T] ty #[nu id ob.rows.length,y]).run P w) (.v (.int .i64 (ob.rows.length:Nat))) (o.set id (some {ob with rows:=rows2})):=by
  intro H a c ey;rw[none' H]
  have hn0:ob.rows.length=0:=by grind
  obtain⟨d,dcap,ed⟩:=shape;rw[ed,ey,hn0];exact Good.pure h (.v _) (Jl w T ty e hu hi d a dcap c)
 rcases lV h hz0 hs e2 hp with⟨rfl,H⟩|⟨ga,c,news,rfl,A,hcell⟩
 ·grind
 ·by_cases H:rows2=[]
  ·grind
  ·have hpos:0<rows2.length:=List.length_pos_iff.2 H
   rcases h.obj id ob ho with e|⟨g,cur,U⟩|⟨g,es,cl,hmp⟩
   ·grind
   ·obtain⟨cap,e4,W,hcm,hsz⟩:=U.vec hv
    have hnl:news.length<=cur.size:=by rw[A.len,hsz,hz,hlen];exact Nat.mul_le_mul_right _ W
    have O:=Jm (P:=P) w T ty e hu hi g ob.rows.length cap ga c cur ob.T news U.ez (by rw[A.len,hlen,hsize]) hcell hnl A.one
    have hg:dW (nu id ob.hl)=some g:=by rw[hhl,e4];rfl
    rw[e4,hlen,O];generalize hcur:(news++cur.toList.drop news.length).toArray=cur'
    have h5:∀b,b≠g->(w.setRow g cur').heap[b]?=w.heap[b]? :=λb hb=>by simp[World.setRow,aeT,Ne.symm hb]
    have h6:(w.setRow g cur').heap[g]?=some (.cells cur' ob.T (0,0)):=by simp[World.setRow,aeT,U.ez]
    have hm:=kp (w:=w) (ob':={ob with rows:=rows2}) (w':=w.setRow g cur') ho (by grind[aa.hl]) hg rfl rfl rfl (by simp_all) h5;refine⟨_,_,nu,rfl,hm,sg h ho (by grind[aa.hl]) hg hm h5 (cur:=cur') ?_,.v _⟩
    have hat:∀(i j:Nat)row c,rows2[i]?=some row->row[j]?=some c->∃x,cur'[i*ob.z+j]?=some x∧RA D nu o w c x∧x.oneCell'=true:=by
     intro i j row c q1 Y;obtain⟨x,x1,x2⟩:=A.cell i j row c q1 Y;refine⟨x,?_,x2,A.one x (aeG x1)⟩
     grind
    refine⟨h6,U.o4,λe'=>by grind,λ_=>⟨cap,?_,?_,hcm,?_⟩,U.z,?_,λi j row c x q1 Y q3=>?_,λi j row c x q1 Y q3=>?_⟩
    ·grind
    ·grind
    ·grind
    ·intro i row q;simp only at q⊢; rw[hz];exact A.row i row q
    ·obtain⟨u,u1,u2,u3⟩:=hat i j row c q1 Y;rw[u1]at q3;cases q3;exact u2.mono hm (λ_ _ h=>h)
    grind
   ·have:=hmp.fc;grind
theorem It{P:Program}{T:TypeId}(ty:TypeId)(h:RO D nu o w){a b:AV}{x y:Value}(q:RA D nu o w a x)(V:RA D nu o w b y){p:Prop}{r:AV}{o':AC}(hl:JR P T o a b=some (p,r,o'))(A:p) :
  Good D nu o w ((Builtin.copy_ #[T,T] ty #[x,y]).run P w) r o':=by
 unfold JR at hl
 split at hl
 ·rename_i e z bytes id len ht
  split at hl
  ·rename_i ob H rows2 W e2;simp only[aep,aeq]at hl;obtain⟨rfl,rfl,rfl⟩:=hl;obtain⟨⟨U,O,Y,rfl⟩,u,hlen⟩:=A;cases q
   grind[Mh]
  ·cases hl
 ·cases hl
end
def wS(P:Program)(op:BinOp)(T:TypeId)(o:AC):AV->AV->Option (Prop×AV)
 | .vec id len,.v (.slice none 0 0)=>if A5 P T then(match o[id]? with
  |some (some ob)=>(match op with
   | .eql=>some (ob.fc=true∧ob.rows.length=len∧0<len,.v (.bool false))
   | .neq=>some (ob.fc=true∧ob.rows.length=len∧0<len,.v (.bool true))
   |_=>none)
  |_=>none)else none
 |_,_=>none
section
variable {D:Nat->Prop} {nu:EQ} {o:AC} {w:World} {P:Program}
theorem GC{op:BinOp}{T:TypeId}{a b:AV}{x y:Value}(h:RO D nu o w)(V:RA D nu o w a x)(U:RA D nu o w b y){p:Prop}{r:AV}(q:wS P op T o a b=some (p,r))(H:p)(X Y:Operand) :
  ∃v,(binOp op T x y).run P w=.ok v w∧RA D nu o w r v∧(eqGuard op T X Y x y).run P w=.ok () w:=by
 unfold wS at q
 split at q
 ·rename_i id len
  split at q
  ·rename_i O
   split at q
   ·rename_i ob ho
    have key:ob.fc=true∧ob.rows.length=len∧0<len->∃g n c,x=.slice (some g) n c:=λ⟨W,hl,A⟩=>by
     subst hl;cases V
     rcases h.obj id ob ho with⟨_,e2,_⟩|⟨g,cur,hb⟩|⟨g,es,cl,u⟩
     ·grind
     ·obtain⟨cap,q1,_⟩:=hb.vec W
      grind
     ·have:=u.fc;grind
    obtain rfl:=U.di
    split at q
    ·simp only[aep,aeq]at q;obtain⟨rfl,rfl⟩:=q;obtain⟨g,n,c,rfl⟩:=key H;exact⟨_,(vw O).1,.v _,pN (λ_ _ e=>by cases e.1) (λe=>by cases e)⟩
    ·simp only[aep,aeq]at q;obtain⟨rfl,rfl⟩:=q;obtain⟨g,n,c,rfl⟩:=key H;exact⟨_,(vw O).2,.v _,pN (λ_ _ e=>by cases e.1) (λe=>by cases e)⟩
    ·cases q
   ·cases q
  ·cases q
 ·cases q
end
def SK(P:Program)(ev:Operand->AV)(o:AC)(op:Op):Option (Prop×AV×AC):=
 match op with
 | .box T x=>match(ev x).cells? with
  |some (c::cs)=>some (True,.ptr o.length 0 (cs.length+1) 0 0,o++[some ⟨T,cs.length+1,false,[c::cs]⟩])
  |_=>none
 | .alloc T=>match de P T with
  |some (c::cs)=>some (True,.ptr o.length 0 (cs.length+1) 0 0,o++[some ⟨T,cs.length+1,false,[c::cs]⟩])
  |_=>none
 | .buildSlice T len parts=>match iG P T len o (parts.toList.map λp=>(p.1,ev p.2))with
  |some (r,o')=>some (True,r,o')
  |none=>none
 | .store T a x=>match Ck P T o (ev a) (ev x)with
  |some (p,o')=>some (p,.v Go.undef,o')
  |none=>none
 | .makeSlice T l c=>JU P T o (ev l) (ev c)
 | .makeMap T none=>some (True,.vec o.length 0,o++[some ⟨T,0,false,[]⟩])
 | .mapUpdate T m k x=>match xH P T o (ev m) (ev k) (ev x)with
  |some (p,o')=>some (p,.v Go.undef,o')
  |none=>none
 | .insert T m k x=>match xH P T o (ev m) (ev k) (ev x)with
  |some (p,o')=>some (p,.v Go.undef,o')
  |none=>none
 | .lookup T m k ok=>match Eo P T o (ev m) (ev k) ok with
  |some (p,r)=>some (p,r,o)
  |none=>none
 | .convert src dst x=>match El P src dst (ev x)with
  |some r=>some (True,r,o)
  |none=>match Cd P o src dst (ev x).st with
   |some (p,r)=>some (p,r,o)
   |none=>none
 | .slice T x lo hi mx=>rC P T o (ev x).st (lo.map ev) (hi.map ev) (mx.map ev)
 | .binOp op T x y T'=>match zV P ev o (.binOp op T x y T')with
  |some (p,r)=>some (p,r,o)
  |none=>match wS P op T o (ev x) (ev y)with
   |some (p,r)=>some (p,r,o)
   |none=>none
 | .call c=>match c.callee with
  | .builtin .append=>xE P ev o c.args.toList c.argTypes.toList
  | .builtin .copy=>Hn P ev o c.args.toList c.argTypes.toList
  |_=>match zV P ev o (.call c)with
   |some (p,r)=>some (p,r,o)
   |none=>none
 |op=>match zV P ev o op with
  |some (p,r)=>some (p,r,o)
  |none=>none
section
variable {D:Nat->Prop} {nu:EQ} {o:AC} {w:World} {P:Program}
def Sr(D:Nat->Prop)(nu:EQ)(o:AC)(w:World)(ev:Operand->AV)(rho:Operand->Value)(op:Op):Prop:=∀x,x∈op.operands.toList->RA D nu o w (ev x) (rho x)
theorem lq{ev:Operand->AV}{rho:Operand->Value}{oo:Oper}(h:RO D nu o w)(A:Sr D nu o w ev rho oo.op){p:Prop}{r:AV}(u:zV P ev o oo.op=some (p,r))(W:p) :
  ∃v,(execOp rho oo).run P w=.ok (.value v) w∧RA D nu o w r v:=by
 obtain⟨dst,op,ty,pos,after,guard⟩:=oo;simp only[Sr]at A u;unfold zV at u
 split at u
 ·rename_i x;cases u;exact⟨rho x,rfl,A x (by simp[Op.operands])⟩
 ·rename_i x;cases u;exact⟨rho x,rfl,A x (by simp[Op.operands])⟩
 ·rename_i x;have V:=A x (by simp[Op.operands]);generalize hq:rho x=vx at V
  split at u
  ·rename_i e;rw[e]at V;cases u;refine⟨vx,?_,V⟩;cases V
   grind[execOp,Sem.run_pure]
  ·rename_i e;rw[e]at V;cases u;refine⟨vx,?_,V⟩;cases V
   grind[execOp,Sem.run_pure]
  ·rename_i e;rw[e]at V;cases u;refine⟨vx,?_,V⟩;cases V
   grind[execOp,Sem.run_pure]
  ·cases u
 ·rename_i T parts
  split at u
  ·rename_i r' hb;cases u
   obtain⟨v,O,H⟩:=Ir (P:=P) (vs:=parts.map λ(i,x)=>(i,rho x)) zk (λk p q a b=>by
    rw[aeu]at a;rw[aeU]at b
    have e:parts.toList[k]?=parts[k]? :=zk
    rw[e]at a
    cases hk:parts[k]? with
    |none=>rw[hk]at a;cases a
    |some pr=>
     rw[hk]at a b;cases a;cases b
     exact⟨rfl,A pr.2 (by
      grind[Op.operands,aeG])⟩) hb
   exact⟨v,by simp[execOp,O],H⟩
  ·cases u
 ·rename_i T x;obtain⟨v,O,H⟩:=qz (P:=P) h (A x (by simp[Op.operands])) u W;exact⟨v,by simp[execOp,O],H⟩
 ·rename_i op' T x y T';obtain⟨v,O,H,h3⟩:=OA (P:=P) (A x (by simp[Op.operands])) (A y (by simp[Op.operands])) u W x y;exact⟨v,by simp[execOp,O,h3],H⟩
 ·rename_i op' T x
  split at u
  ·rename_i r' hb;cases u;obtain⟨v,O,H⟩:=U2 (P:=P) (A x (by simp[Op.operands])) hb;exact⟨v,by simp[execOp,O],H⟩
  ·cases u
 ·rename_i src dst' x
  split at u
  ·rename_i r' hb;cases u;obtain⟨v,O,H⟩:=AD (P:=P) (A x (by simp[Op.operands])) hb;exact⟨v,by simp[execOp,O],H⟩
  ·cases u
 ·rename_i f first caps
  cases u
  refine⟨.func (.func f) (first.map rho) (caps.map rho),by simp[execOp,Instr.makeFunc],.fn _ _ _ _ _ zk zk (λi c x q1 Y=>?_) (λi c x q1 Y=>?_)⟩
  ·grind[Op.operands,aeV]
  grind[Op.operands,aeV]
 ·rename_i T x f
  split at u
  ·rename_i r' hb;cases u;obtain⟨v,O,H⟩:=yu (P:=P) (A x (by simp[Op.operands])) hb;exact⟨v,by simp[execOp,O],H⟩
  ·cases u
 ·rename_i T x f;obtain⟨v,O,H⟩:=Iu (P:=P) (A x (by simp[Op.operands])) u W;exact⟨v,by simp[execOp,O],H⟩
 ·rename_i T x i;obtain⟨v,O,H⟩:=yv (P:=P) h (A x (by simp[Op.operands])).st (A i (by simp[Op.operands])) u W;exact⟨v,by simp[execOp,O],H⟩
 ·rename_i T x i;obtain⟨v,O,H⟩:=ID (P:=P) (A x (by simp[Op.operands])) (A i (by simp[Op.operands])) u W;exact⟨v,by simp[execOp,O],H⟩
 ·rename_i T m k ok;obtain⟨v,O,H⟩:=xG (P:=P) h (A m (by simp[Op.operands])) (A k (by simp[Op.operands])) u W;exact⟨v,by simp[execOp,O],H⟩
 ·rename_i x i
  split at u
  ·rename_i r' hb;cases u;obtain⟨v,O,H⟩:=Cy (P:=P) (A x (by simp[Op.operands])) hb;exact⟨v,by simp[execOp,O],H⟩
  ·cases u
 ·rename_i c
  split at u
  ·rename_i b hc;have U:∀x,x∈c.args.toList->RA D nu o w (ev x) (rho x):=λx V=>A x (by grind[Op.operands,Call.operands]);obtain⟨callee,args,argTypes⟩:=c;simp only at hc u U;subst hc;obtain⟨args⟩:=args;obtain⟨argTypes⟩:=argTypes;simp only at u U;unfold ux at u
   split at u
   ·rename_i x T;obtain⟨v,O,H⟩:=PX (P:=P) ty h (U x zk).st u W;exact⟨v,by simp[execOp,resolve,invoke,builtin,O],H⟩
   ·rename_i Ts x y;have O:=U x zk;have H:=U y zk
    split at u
    ·rename_i e1 e2;cases u;rw[e1]at O;rw[e2]at H;have q1:=O.di;have Y:=H.di;exact⟨_,by simp[execOp,resolve,invoke,builtin,Builtin.min_,Builtin.min2,q1,Y],.v _⟩
    ·cases u
   ·rename_i Ts x y;have O:=U x zk;have H:=U y zk
    split at u
    ·rename_i e1 e2;cases u;rw[e1]at O;rw[e2]at H;have q1:=O.di;have Y:=H.di;exact⟨_,by simp[execOp,resolve,invoke,builtin,Builtin.max_,Builtin.max2,q1,Y],.v _⟩
    ·cases u
   ·cases u
  ·cases u
 ·cases u
def Vh(D:Nat->Prop)(nu:EQ)(o:AC)(w:World)(res:Result Next)(r:AV)(o':AC):Prop:=
 ∃v w' nu',(res=.ok (.value v) w'∨(res=.ok .skip w'∧v=Go.undef))∧cf nu o w nu' o' w'∧RO D nu' o' w'∧RA D nu' o' w' r v
theorem Sd{x:Sem Value}{r:AV}{o':AC}(h:Good D nu o w (x.run P w) r o'):Vh D nu o w ((do pure (Next.value (<-x)):Sem Next).run P w) r o':=by
 obtain⟨v,w',nu',u,q⟩:=h;exact⟨v,w',nu',.inl (by simp[u]),q⟩
theorem mV{ev:Operand->AV}{rho:Operand->Value}{lo:Option Operand}(h:∀x,lo=some x->RA D nu o w (ev x) (rho x)):(∀c,lo.map ev=some c->∃y,lo.map rho=some y∧RA D nu o w c y)∧(lo.map ev=none->lo.map rho=none):=by
 cases lo with
 |none=>grind
 |some x=>grind
theorem EG{T:TypeId}{c:AV}{cs:C5}{x:Value}(h:RO D nu o w)(q:Sw D nu o w (c::cs) x.cells):Good D nu o w ((Instr.box T x).run P w) (.ptr o.length 0 (cs.length+1) 0 0) (o++[some ⟨T,cs.length+1,false,[c::cs]⟩]):=by
 have:=Pp h T q zk
 simp only[List.length_cons]at this
 have e:(Instr.box T x).run P w=.ok (.pointer (some ⟨w.heap.size,0,none⟩)) (w.alloc (.cells x.cells T)):=by simp[Instr.box,newVar,newRow]
 grind
theorem Ev{ev:Operand->AV}{rho:Operand->Value}{oo:Oper}(h:RO D nu o w)(A:Sr D nu o w ev rho oo.op){p:Prop}{r:AV}{o':AC}(u:SK P ev o oo.op=some (p,r,o'))(Y:p) :
  Vh D nu o w ((execOp rho oo).run P w) r o':=by
 unfold SK at u
 split at u
 ·rename_i T x H;have hx:=A x (by grind[Op.operands])
  split at u
  ·rename_i c cs hc;cases u
   have:=Sd (EG (P:=P) (T:=T) h (hx.one hc))
   grind[execOp]
  ·cases u
 ·rename_i T H
  split at u
  ·rename_i c cs hc;cases u;obtain⟨i,zv,hi,hzv,he,hone⟩:=iA hc
   have hz:(zeroValue T).run P w=.ok zv w:=by simp[zeroValue,typeInfo,hi,hzv]
   have U:=EG (P:=P) (T:=T) (x:=zv) h (by rw[he];grind[D6])
   have e:(Instr.alloc T true (.tuple #[])).run P w=(Instr.box T zv).run P w:=by simp[Instr.alloc,Instr.box,hz]
   grind[Sd,execOp]
  ·cases u
 ·rename_i T len parts H
  split at u
  ·rename_i r' o'' U;cases u
   have:=Sd (wG (P:=P) (vs:=parts.map λ(i,x)=>(i,rho x)) h zk (λk p q a b=>by
    rw[aeu]at a;rw[aeU]at b
    have e:parts.toList[k]?=parts[k]? :=zk
    rw[e]at a
    cases hk:parts[k]? with
    |none=>grind
    |some pr=>
     rw[hk]at a b;cases a;cases b
     exact⟨rfl,A pr.2 (by
      grind[Op.operands,aeG])⟩) U)
   grind[execOp]
  ·cases u
 ·rename_i T a x H
  split at u
  ·rename_i p' o'' U;cases u;obtain⟨w',W,V,h3⟩:=Iw (P:=P) h (A a (by grind[Op.operands])) (A x (by grind[Op.operands])) U Y;exact⟨_,w',nu,.inr ⟨by simp[execOp,H,W],rfl⟩,V,h3,.v _⟩
  ·cases u
 ·rename_i T l c H
  have:=Sd (Mi (P:=P) h (A l (by grind[Op.operands])) (A c (by grind[Op.operands])) u Y)
  grind[execOp]
 ·grind[Sd,Dm,execOp]
 ·rename_i T m k x H
  split at u
  ·rename_i p' o'' U;cases u;obtain⟨w',W,V,h3⟩:=vN (P:=P) h (A m (by grind[Op.operands])) (A k (by grind[Op.operands])) (A x (by grind[Op.operands])) U Y;exact⟨_,w',nu,.inr ⟨by simp[execOp,H,W],rfl⟩,V,h3,.v _⟩
  ·cases u
 ·rename_i T m k x H
  split at u
  ·rename_i p' o'' U;cases u;obtain⟨w',W,V,h3⟩:=vN (P:=P) h (A m (by grind[Op.operands])) (A k (by grind[Op.operands])) (A x (by grind[Op.operands])) U Y;exact⟨_,w',nu,.inr ⟨by simp[execOp,H,W],rfl⟩,V,h3,.v _⟩
  ·cases u
 ·rename_i T m k ok H
  split at u
  ·rename_i p' r' U;cases u;obtain⟨v,W,V⟩:=xG (P:=P) h (A m (by grind[Op.operands])) (A k (by grind[Op.operands])) U Y;exact⟨v,w,nu,.inl (by simp[execOp,H,W]),.refl nu o w,h,V⟩
  ·cases u
 ·rename_i src dst x H;have hx:=A x (by grind[Op.operands])
  split at u
  ·rename_i r' U;cases u;obtain⟨v,W,V⟩:=AD (P:=P) hx U;exact⟨v,w,nu,.inl (by simp[execOp,H,W]),.refl nu o w,h,V⟩
  ·split at u
   ·rename_i p' r' U;cases u;obtain⟨v,W,V⟩:=Ic (P:=P) h hx.st U Y;exact⟨v,w,nu,.inl (by simp[execOp,H,W]),.refl nu o w,h,V⟩
   ·cases u
 ·rename_i T x lo hi mx H
  have:=Sd (Iv (P:=P) h (A x (by grind[Op.operands])).st (mV (rho:=rho) (λy hy=>A y (by grind[Op.operands]))) (mV (rho:=rho) (λy hy=>A y (by grind[Op.operands]))) (mV (rho:=rho) (λy hy=>A y (by grind[Op.operands]))) u Y)
  grind[execOp]
 ·rename_i op' T x y T' H
  split at u
  ·rename_i p' r' U;cases u;rw[<-H]at U;obtain⟨v,W,V⟩:=lq (P:=P) h A U Y;exact⟨v,w,nu,.inl W,.refl nu o w,h,V⟩
  ·split at u
   ·rename_i p' r' U;cases u;obtain⟨v,W,V,h3⟩:=GC (P:=P) h (A x (by grind[Op.operands])) (A y (by grind[Op.operands])) U Y x y;exact⟨v,w,nu,.inl (by simp[execOp,H,W,h3]),.refl nu o w,h,V⟩
   ·cases u
 ·rename_i c H
  split at u
  ·rename_i hc;have O:∀x,x∈c.args.toList->RA D nu o w (ev x) (rho x):=λx hx=>A x (by grind[Op.operands,Call.operands]);obtain⟨callee,args,argTypes⟩:=c;simp only at hc u O;subst hc;obtain⟨args⟩:=args;obtain⟨argTypes⟩:=argTypes;simp only at u O;unfold xE at u
   split at u
   ·rename_i x y T T'
    split at u
    ·rename_i hT;subst hT
     have:=Sd (Fh (P:=P) oo.type h (O x zk) (O y zk).st u Y)
     grind[execOp,resolve,invoke,builtin]
    ·cases u
   ·cases u
  ·rename_i hc;have O:∀x,x∈c.args.toList->RA D nu o w (ev x) (rho x):=λx hx=>A x (by grind[Op.operands,Call.operands]);obtain⟨callee,args,argTypes⟩:=c;simp only at hc u O;subst hc;obtain⟨args⟩:=args;obtain⟨argTypes⟩:=argTypes;simp only at u O;unfold Hn at u
   split at u
   ·rename_i x y T T'
    split at u
    ·rename_i hT;subst hT
     have:=Sd (It (P:=P) oo.type h (O x zk) (O y zk).st u Y)
     grind[execOp,resolve,invoke,builtin]
    ·cases u
   ·cases u
  ·split at u
   ·rename_i p' r' U;cases u;rw[<-H]at U;obtain⟨v,W,V⟩:=lq (P:=P) h A U Y;exact⟨v,w,nu,.inl W,.refl nu o w,h,V⟩
   ·cases u
 ·split at u
  ·rename_i p' r' U;cases u;obtain⟨v,W,V⟩:=lq (P:=P) h A U Y;exact⟨v,w,nu,.inl W,.refl nu o w,h,V⟩
  ·cases u
end
mutual
def AV.wf(n:Nat):AV->Bool
 | .undef=>true
 | .v _=>true
 | .agg cs=>aQ n cs
 | .ck vs=>aQ n vs
 | .aA _ rows _=>bE n rows
 | .vp cs=>aQ n cs
 | .ptr id _ _ _ _=>decide (id<n)
 | .vec id _=>decide (id<n)
 | .fn _ f c=>aQ n f&&aQ n c
 | .full a=>a.wf n
 | .ju _ a=>a.wf n
 | .mp rows=>bE n rows
def aQ(n:Nat):C5->Bool
 | []=>true
 |a::l=>a.wf n&&aQ n l
def bE(n:Nat):List C5->Bool
 | []=>true
 |r::l=>aQ n r&&bE n l
end
theorem cG{n:Nat}:∀{l:C5},aQ n l=true->∀{i:Nat}{c:AV},l[i]?=some c->c.wf n=true
 | [],_,i,c,h=>by simp at h
 |a::l,h,0,c,hi=>by simp only[aQ,aeW]at h;grind
 |a::l,h,i+1,c,hi=>by simp only[aQ,aeW]at h;exact cG h.2 (by simpa using hi)
theorem lh{n:Nat}:∀{l:List C5},bE n l=true->∀{i:Nat}{r:C5},l[i]?=some r->aQ n r=true
 | [],_,i,c,h=>by simp at h
 |a::l,h,0,c,hi=>by simp only[bE,aeW]at h;grind
 |a::l,h,i+1,c,hi=>by simp only[bE,aeW]at h;exact lh h.2 (by simpa using hi)
theorem DW{n:Nat}:∀{l:List C5},(∀r∈l,aQ n r=true)->bE n l=true
 | [],_=>rfl
 |a::l,h=>by simp only[bE,aeW];exact⟨h a zk,DW (λc q=>h c (by simp[q]))⟩
theorem bt{α:Type}{n:Nat}(f:α->C5)(h:∀x,aQ n (f x)=true)(l:List α):bE n (l.map f)=true:=DW (λr q=>by
 grind)
section
variable {D D':Nat->Prop} {nu nu':EQ} {o o':AC} {w:World} {P:Program}
theorem RA.tr{n:Nat}(W:∀b,Fz D nu o w b->Fz D' nu' o' w b)(hH:∀id len,id<n->fg o id len->fg o' id len∧nu' id len=nu id len){a:AV}{x:Value}(hr:RA D nu o w a x)(u:a.wf n=true):RA D' nu' o' w a x:=by
 induction hr with
 |undef x=>exact .undef x
 |v x=>exact .v x
 |agg cs xs q _ O ih=>exact .agg cs xs q (λi c x A V=>ih i c x A V (cG u A)) O
 |ck cs xs q _ ih=>exact .ck cs xs q (λi c x A V=>ih i c x A V (cG u A))
 |b6 z=>exact .b6 z
 |cp z a=>exact .cp z a
 |aA z rows len b off cap f q H O U h5 h6 _ h8 ih=>
  exact .aA z rows len b off cap f q H O (λhne=>W b (U hne)) h5 h6 (λi j row c hi hj=>ih i j row c hi hj (cG (lh u hi) hj)) h8
 |vp cs b off f q H _ U ih=>exact .vp cs b off f (W b q) H (λj c A=>ih j c A (cG u A)) U
 |ptr id len z row off b q H=>
  simp only[AV.wf,decide_eq_true_eq]at u;obtain⟨O,U⟩:=hH id len u q;exact .ptr id len z row off b O (by grind)
 |vec id len q H=>
  simp only[AV.wf,decide_eq_true_eq]at u;obtain⟨O,U⟩:=hH id len u q;rw[<-U];exact .vec id len O (by grind)
 |fn g first caps fi ca q H _ _ ih1 Y=>
  simp only[AV.wf,aeW]at u
  exact .fn g first caps fi ca q H (λi c x A V=>ih1 i c x A V (cG u.1 A)) (λi c x A V=>Y i c x A V (cG u.2 A))
 |full a x q _ ih=>
  simp only[AV.wf]at u;exact .full a x q (ih u)
 |ju p a x S h0 q A H _ ih=>
  simp only[AV.wf]at u;exact .ju p a x S h0 (λb hb=>W b (q b hb)) A H (ih u)
 |mp rows b es cl q H O U h5 h6 _ ih=>
  simp only[AV.wf]at u;exact .mp rows b es cl (W b q) H O U h5 h6 (λi j row c e q1 q2 q3=>ih i j row c e q1 q2 q3 (cG (lh u q1) q2))
theorem gy.tr{n:Nat}(O:∀b,Fz D nu o w b->Fz D' nu' o' w b)(H:∀id len,id<n->fg o id len->fg o' id len∧nu' id len=nu id len){cs:C5}{xs:Array Value}(q:gy D nu o w cs xs)(A:aQ n cs=true):gy D' nu' o' w cs xs:=
 ⟨q.len,λi c x u U=>(q.at' i c x u U).tr O H (cG A u)⟩
end
def fQ(P:Program)(f:FuncId):Bool:=match P.funcs[f]? with
 |some fn=>fn.name != "runtime.NumGoroutine" && fn.body.isSome
 |none=>false
theorem kZ{P:Program}{f:FuncId}(h:fQ P f=true)(args:Array Value)(w:World):(callFunc f args).run P w=.ok (.enter f args) w:=by
 unfold fQ at h
 split at h
 ·rename_i fn q;simp only[aeW,bne_iff_ne,ne_eq]at h;obtain⟨c,u⟩:=Option.isSome_iff_exists.1 h.2;simp[callFunc,q,h.1,u]
 ·cases h
def N0(D:Nat->Prop)(nu:EQ)(o:AC)(w:World)(Q:AV->AC->Prop)(e:Ending)(w':World):Prop:=
 ∃v nu' o' r,e=.returned v∧cf nu o w nu' o' w'∧RO D nu' o' w'∧RA D nu' o' w' r v∧Q r o'
def ft(P:Program)(f:FuncId)(args:C5)(o:AC)(Q:AV->AC->Prop):Prop:=
 fQ P f=true∧∀D nu w vargs,RO D nu o w->gy D nu o w args vargs->Calls P f vargs w (N0 D nu o w Q)
def aj(P:Program)(f:FuncId)(args:C5)(r:AV):Prop:=(aQ 0 args=true∧r.wf 0=true)∧ft P f args [] (λr' o'=>r'=r∧o'=[])
section
variable {D:Nat->Prop} {nu:EQ} {o:AC} {w:World} {P:Program}
theorem ft.mono{f:FuncId}{args:C5}{Q q:AV->AC->Prop}(h:ft P f args o Q)(V:∀r o',Q r o'->q r o'):ft P f args o q:=
 ⟨h.1,λD nu w vargs Y W=>(h.2 D nu w vargs Y W).mono (λ_ _⟨v,nu',o',r,U,O,H,A,u⟩=>⟨v,nu',o',r,U,O,H,A,V r o' u⟩)⟩
def JG(D:Nat->Prop)(nu:EQ)(o:AC)(w:World)(b:Nat):Prop:=b<w.heap.size->Fz D nu o w b
theorem EO{b:Nat}(h:Fz D nu o w b):Fz (JG D nu o w) nu [] w b:=⟨h.1,br _ _,λ_=>h⟩
theorem TE(h:RO D nu o w){nu':EQ}{w':World}{b:Nat}(A:Fz (JG D nu o w) nu' [] w' b):Fz D nu o w' b:=by
 rcases aei b w.heap.size with q|u
 ·have:=A.2.2 q
  exact⟨A.1,this.2.1,this.2.2⟩
 ·exact⟨A.1,λH=>by have:=h.bL H;omega,h.up b u⟩
theorem jj{nu':EQ}{w':World}(h:cf nu [] w nu' [] w'):Below w.heap.size w w':=⟨h.os,h.tape,h.output,h.size,λk q=>(h.keep k q (br _ _)).1⟩
theorem rI{f:FuncId}{args:C5}{r:AV}{vargs:Array Value}(V:aj P f args r)(h:RO D nu o w)(W:gy D nu o w args vargs) :
  Calls P f vargs w (λe w'=>∃v,e=.returned v∧Below w.heap.size w w'∧RA D nu o w' r v):=by
 obtain⟨⟨h1,h2⟩,_,Y⟩:=V;refine(Y (JG D nu o w) nu w vargs (.nil _ _ _ (λb u q=>zd) (h.gl.fz (λb U=>⟨rfl,EO U⟩))) (W.tr (n:=0) (λb u=>EO u) (λid len q=>zd) h1)).mono ?_;rintro e w' ⟨v,nu',o',r',rfl,O,H,A,rfl,rfl⟩;exact⟨v,rfl,jj O,A.tr (n:=0) (λb u=>TE h u) (λid len q=>zd) h2⟩
def Vw(o:AC)(a a':AV):Prop:=(a'=a∧a.wf 0=true)∨∃id len ob,a=.vec id len∧o[id]?=some (some ob)∧ob.fc=true∧ob.rows.length=len∧bE 0 ob.rows=true∧a' = .aA ob.z ob.rows len
def VwL(o:AC):C5->C5->Prop
 | [],[]=>True
 |a::l,b::m=>Vw o a b∧VwL o l m
 |_,_=>False
def AV.flat:AV->Bool
 | .v _=>true
 | .agg cs=>cs.all (λc=>match c with| .v _=>true|_=>false)
 |_=>false
theorem RA.flat{D':Nat->Prop}{nu':EQ}{o':AC}{w':World}{r:AV}{x:Value}(h:RA D nu o w r x)(H:r.flat=true):RA D' nu' o' w' r x:=by
 cases h with
 |v=>exact .v _
 |agg cs xs W V U=>
  refine .agg cs xs W (λi c x q u=>?_) U;have O:=List.all_eq_true.1 H c (aeG q);have A:=V i c x q u
  cases c with
  |v y=>cases A;exact .v _
  |_=>simp at O
 |_=>grind[AV.flat]
theorem U4(h:RO D nu o w){a O:AV}{x:Value}(A:Vw o a O)(U:RA D nu o w a x):O.wf 0=true∧RA (λ_=>True) nu [] w O x:=by
 have V:∀b,b<w.heap.size->Fz (λ_=>True) nu [] w b:=λb q=>⟨q,br _ _,trivial⟩
 rcases A with⟨rfl,u⟩|⟨id,len,ob,rfl,W,A,rfl,u,rfl⟩
 ·exact⟨u,U.tr (n:=0) (λb q=>V b q.1) (λid len H=>zd) u⟩
 ·refine⟨by grind[AV.wf],?_⟩;cases U;exact(my h W A).tr (n:=0) (λb q=>V b q.1) (λid len H=>zd) (by grind[AV.wf])
theorem GK(h:RO D nu o w):∀{as bs:C5}{xs:Id},VwL o as bs->as.length=xs.length->(∀(i:Nat)c x,as[i]?=some c->xs[i]?=some x->RA D nu o w c x) ->
  aQ 0 bs=true∧bs.length=xs.length∧∀(i:Nat)c x,bs[i]?=some c->xs[i]?=some x->RA (λ_=>True) nu [] w c x
 | [],[],[],_,_,_=>⟨rfl,rfl,λi c x h=>by simp at h⟩
 |a::as,b::bs,x::xs,q,hl,H=>by
  obtain⟨Y,W⟩:=U4 h q.1 (H 0 a x rfl rfl);obtain⟨V,U,O⟩:=GK h q.2 (by simpa using hl) (λi c x A u=>H (i+1) c x (by simpa using A) (by simpa using u));refine⟨by simp only[aQ,Y,V,Bool.and_self],by simpa using U,λi c y A u=>?_⟩
  cases i with
  |zero=>simp at A u;subst A;subst u;exact W
  |succ i=>exact O i c y (by simpa using A) (by simpa using u)
 | [],_::_,_,q,_,_=>q.elim
 |_::_,[],_,q,_,_=>q.elim
 | [],[],_::_,_,hl,_=>by simp at hl
 |_::_,_::_,[],_,hl,_=>by simp at hl
theorem H8{f:FuncId}{args args':C5}{r:AV}{vargs:Array Value}(hc:aj P f args' r)(U:VwL o args args')(Y:r.flat=true)(h:RO D nu o w)(A:gy D nu o w args vargs) :
  Calls P f vargs w (λe w'=>∃v,e=.returned v∧Below w.heap.size w w'∧RA D nu o w' r v):=by
 obtain⟨⟨h1,h2⟩,_,h3⟩:=hc;obtain⟨k1,k2,O⟩:=GK (xs:=vargs.toList) h U (by simpa using A.len) (λi c x q H=>A.at' i c x q (by grind));refine(h3 (λ_=>True) nu w vargs (.nil _ _ _ (λ_ _=>trivial) (h.gl.nil (λ_ _ _=>trivial))) ⟨zd,λi c x q H=>O i c x q (by grind)⟩).mono ?_;rintro e w' ⟨v,nu',o',r',rfl,W,V,u,rfl,rfl⟩;exact⟨v,rfl,jj W,u.flat Y⟩
def ah(P:Program)(f:FuncId)(args:C5)(o:AC)(K:AV->AC->Prop):Prop:=
 (∃r,aj P f args r∧K r o)∨(∃args' r,VwL o args args'∧r.flat=true∧aj P f args' r∧K r o)∨ft P f args o K
theorem ah.one{f:FuncId}{args:C5}{r:AV}{K:AV->AC->Prop}(h:aj P f args r)(k:K r o):ah P f args o K:= .inl ⟨r,h,k⟩
theorem ah.two{f:FuncId}{args:C5}{K Q:AV->AC->Prop}(h:ft P f args o Q)(k:∀r o',Q r o'->K r o'):ah P f args o K:= .inr (.inr (h.mono k))
theorem H6{f:FuncId}{args:C5}{K:AV->AC->Prop}{vargs:Array Value}(q:ah P f args o K)(h:RO D nu o w)(O:gy D nu o w args vargs):fQ P f=true∧Calls P f vargs w (N0 D nu o w K):=by
 rcases q with⟨r,q,H⟩|⟨args',r,U,V,q,H⟩|q
 ·refine⟨q.2.1,(rI q h O).mono ?_⟩;rintro e w' ⟨v,rfl,u,A⟩;exact⟨v,nu,o,r,rfl,aH u,h.below u,A,H⟩
 ·refine⟨q.2.1,(H8 q U V h O).mono ?_⟩;rintro e w' ⟨v,rfl,u,A⟩;exact⟨v,nu,o,r,rfl,aH u,h.below u,A,H⟩
 ·exact⟨q.1,q.2 D nu w vargs h O⟩
def AR(x:Option (Prop×AV×AC))(K:AV->AC->Prop):Prop:=match x with
 |some (p,r,o')=>p∧K r o'
 |none=>False
@[congr] theorem Yo{x y:Option (Prop×AV×AC)}{K:AV->AC->Prop}(h:x=y):AR x K=AR y K:=by rw[h]
theorem Sm(p:Prop)(r:AV)(o':AC)(K:AV->AC->Prop):AR (some (p,r,o')) K=(p∧K r o'):=rfl
theorem Sn(r:AV)(o':AC)(K:AV->AC->Prop):AR (some (True,r,o')) K=K r o':=by simp[AR]
@[congr] theorem Si{f:FuncId}{args args':C5}{K:AV->AC->Prop}(h:args=args'):ah P f args o K=ah P f args' o K:=by rw[h]
def cn(b:Bool)(A B:Prop):Prop:=if b then A else B
@[congr] theorem Xy{b c:Bool}{A B:Prop}(h:b=c):cn b A B=cn c A B:=by rw[h]
theorem Ef(A B:Prop):cn true A B=A:=rfl
theorem Ak(A B:Prop):cn false A B=B:=rfl
theorem cn.part{b:Bool}{A B:Prop}(u:b=true->A)(q:b=false->B):cn b A B:=by grind[cn]
def VO(P:Program)(f:AV)(args:C5)(o:AC)(K:AV->AC->Prop):Prop:=match f with
 | .fn g first caps=>ah P g (first++args++caps) o K
 |_=>False
@[congr] theorem Xw{f f':AV}{args args':C5}{K:AV->AC->Prop}(h:f=f')(k:args=args'):VO P f args o K=VO P f' args' o K:=by rw[h,k]
theorem VU(g:FuncId)(first caps args:C5)(K:AV->AC->Prop):VO P (.fn g first caps) args o K=ah P g (first++args++caps) o K:=rfl
def Ed(P:Program)(op:Op)(s:AS)(K:AV->AC->Prop):Prop:=match op with
 | .pick c a b=>match s.ev c with
  | .v (.bool t)=>cn t (K (s.ev a) s.o) (K (s.ev b) s.o)
  |_=>False
 | .call c=>match c.callee with
  | .value f=>VO P (s.ev f) (c.args.toList.map s.ev) s.o K
  |_=>AR (SK P s.ev s.o (.call c)) K
 |op=>AR (SK P s.ev s.o op) K
theorem Et{s:AS}{a:Act}{oo:Oper}{K:AV->AC->Prop}{next:Act->World->Prop}{Q:Exit->Act->World->Prop}(h:RO D nu s.o w)(q:Sr D nu s.o w s.ev a.eval oo.op)(A:Ed P oo.op s K)
  (U:∀v w' nu' r o',cf nu s.o w nu' o' w'->RO D nu' o' w'->RA D nu' o' w' r v->K r o'->next (a.put oo.dst v) w'):oo.wp P a w next Q:=by
 have hop:∀op,oo.op=op->AR (SK P s.ev s.o op) K->oo.wp P a w next Q:=by
  intro op H hh;subst H;unfold AR at hh
  split at hh
  ·rename_i p r o' e;obtain⟨v,w',nu',h1,h2,h3,h4⟩:=Ev (P:=P) h q e hh.1
   have:=U v w' nu' r o' h2 h3 h4 hh.2
   unfold Oper.wp
   grind[Oper.upon_value,Oper.upon_skip]
  grind
 unfold Ed at A
 split at A
 ·rename_i c x y H;have Y:=q c (by grind[Op.operands])
  split at A
  ·rename_i t e;rw[e]at Y;have W:=Y.di;unfold Oper.wp
   have u:(execOp a.eval oo).run P w=.ok (.value (if t then a.eval x else a.eval y)) w:=by simp[execOp,H,W,asBool]
   rw[u,Oper.upon_value]
   cases t
   ·exact U _ w nu _ _ (.refl nu _ w) h (q y (by grind[Op.operands])) A
   ·exact U _ w nu _ _ (.refl nu _ w) h (q x (by grind[Op.operands])) A
  grind
 ·rename_i c H
  split at A
  ·rename_i f Y;unfold VO at A
   split at A
   ·rename_i g first caps e
    have V:=q f (by grind[Op.operands,Call.operands]);rw[e]at V;generalize hq:a.eval f=vf at V
    cases V with
    |fn _ _ _ fi ca q1 q2 q3 q4=>
    have hargs:∀x,x∈c.args.toList->RA D nu s.o w (s.ev x) (a.eval x):=λx hx=>q x (by grind[Op.operands,Call.operands])
    have O:gy D nu s.o w (first++c.args.toList.map s.ev++caps) (fi++c.args.map a.eval++ca):=by
     refine⟨by simp[q1,q2],λi cc x k1 k2=>?_⟩
     grind
    obtain⟨c1,c2⟩:=H6 (P:=P) A h O;unfold Oper.wp
    have u:(execOp a.eval oo).run P w=.ok (.enter g (fi++c.args.map a.eval++ca)) w:=by
     grind[execOp,resolve,Deferred.ofValue,Sem.run_bind,Sem.run_pure,Result.andThen_ok,invoke,kZ]
    rw[u,Oper.upon_enter];refine c2.mono ?_;rintro e w' ⟨v,nu',o',r,rfl,m1,m2,m3,m4⟩
    grind
   grind
  grind
 grind
structure Fr where
 B:Nat
 r:Option Nat
 Z:Nat->Prop
def Fr.wz(f:Fr)(Z:Nat->Prop):Fr:=⟨f.B,f.r,Z⟩
def IV(x:Nat):Deferred:={target:= .collected x,args:= #[]}
def yx:Obj->Bool
 | .deferred _=>true
 | .loop _=>true
 |_=>false
structure FR(f:Fr)(ds:List Deferred)(w:World):Prop where
 base:f.B<=w.heap.size
 marks:∃rs:Do,rs.Nodup∧ds=rs.map IV∧∀x,x∈rs->f.B<=x∧f.Z x∧w.heap[x]?=some (.deferred (some []))
 loop:∀l,f.r=some l->∃q,w.heap[l]?=some (.loop q)
theorem FR.keep{f:Fr}{ds:List Deferred}{w w':World}(h:FR f ds w)(U:w.heap.size<=w'.heap.size)(A:∀(b:Nat)ob,f.Z b∨f.r=some b->w.heap[b]?=some ob->yx ob=true->w'.heap[b]?=some ob):FR f ds w':=by
 obtain⟨rs,h1,h2,Y⟩:=h.marks
 refine⟨Nat.le_trans h.base U,⟨rs,h1,h2,λx V=>?_⟩,λl hl=>?_⟩
 ·obtain⟨O,u,H⟩:=Y x V;exact⟨O,u,A x _ (.inl u) H rfl⟩
 ·obtain⟨q,W⟩:=h.loop l hl;exact⟨q,A l _ (.inr hl) W rfl⟩
theorem ox{D:Nat->Prop}{nu:EQ}{o:AC}{w:World}(h:RO D nu o w){b:Nat}{ob:Obj}(A:w.heap[b]?=some ob)(O:yx ob=true): ¬owned nu o b:=λ⟨id,x,U,q⟩=>by
 rcases h.obj id x U with⟨Y,W,V⟩|⟨g,cur,H⟩|⟨g,es,cl,u⟩
 ·simp only[aa.hl,Y,W,if_true,List.length_nil,V,dW,cW]at q;cases q
 ·rw[H.b8]at q;cases q;rw[H.ez]at A;cases A;cases O
 ·rw[u.b8]at q;cases q;rw[u.ez]at A;cases A;cases O
theorem FR.mono{f:Fr}{ds:List Deferred}{D:Nat->Prop}{nu nu':EQ}{o o':AC}{w w':World}(h:FR f ds w)(q:RO D nu o w)(A:cf nu o w nu' o' w'):FR f ds w':=
 h.keep A.size (λb ob O u H=>(A.keep b (aeh.1 u).1 (ox q u H)).1.trans u)
theorem FR.VG{f:Fr}{Z:Nat->Prop}{ds:List Deferred}{w:World}(h:FR f ds w)(A:∀b,f.Z b->Z b):FR (f.wz Z) ds w:=by
 obtain⟨rs,O,H,u⟩:=h.marks;exact⟨h.base,⟨rs,O,H,λx q=>⟨(u x q).1,A x (u x q).2.1,(u x q).2.2⟩⟩,h.loop⟩
structure RS(f:Fr)(D:Nat->Prop)(nu:EQ)(s:AS)(a:Act)(w:World):Prop where
 ro:RO D nu s.o w
 tm:gy D nu s.o w s.t a.tmps
 mh:FR f a.defers w
theorem RS.ev{s:AS}{a:Act}{f:Fr}(h:RS f D nu s a w)(x:Operand):RA D nu s.o w (s.ev x) (a.eval x):=by
 cases x with
 |tmp t=>
  simp only[AS.ev,Act.eval]
  rcases aei t s.t.length with q|hge
  ·have u:s.t[t]?=some s.t[t]:=aes q;have hl:=h.tm.len
   have hlt':t<a.tmps.size:=by grind
   have A:a.tmps[t]?=some a.tmps[t]:=aer hlt';rw[getD_some u]
   have:a.tmps.getD t Go.undef=a.tmps[t]:=by simp_all
   rw[this];exact h.tm.at' t _ _ u A
  ·rw[aeS,List.getElem?_eq_none hge];exact .undef _
 |const v=>exact .v v
 |global gi=>exact w9 h.ro s gi
 |func f=>
  exact .fn f [] [] #[] #[] rfl rfl (λi c x h=>by simp at h) (λi c x h=>by simp at h)
theorem RS.put{s:AS}{a:Act}{f:Fr}(h:RS f D nu s a w){w':World}{nu':EQ}{o':AC}{r:AV}{v:Value}(O:cf nu s.o w nu' o' w')(u:RO D nu' o' w')(V:RA D nu' o' w' r v)(dst:Option Tmp) :
  RS f D nu' (s.put dst r o') (a.put dst v) w':=by
 have q:=h.tm.mono O (λ_ _ h=>h)
 refine⟨u,?_,?_⟩
 ·cases dst with
  |none=>exact q
  |some d=>
   refine⟨by simpa [AS.put,Act.put]using q.len,λi c x H A=>?_⟩;simp only[AS.put,Act.put]at H A⊢
   by_cases U:d=i
   ·grind
   ·rw[List.getElem?_set_ne U]at H;rw[Array.getElem?_setIfInBounds_ne U]at A;exact q.at' i c x H A
 ·have:=h.mh.mono h.ro O
  cases dst<;>simpa [Act.put]using this
def nV(all:GE)(s:AS)(j:Nat):Option (Option Bool):=match all[j]? with
 |none=>some none
 |some o=>match o.dst with
  |none=>some none
  |some d=>match s.t[d]? with
   |none=>some none
   |some (.v (.bool b))=>some (some b)
   |some (.v (.tuple _))=>some none
   |_=>none
def Aj(g:Option (Option Bool))(want:Bool)(A B:Prop):Prop:=match g with
 |some (some b)=>cn (b==want) A B
 |some none=>B
 |none=>False
@[congr] theorem Xx{g q:Option (Option Bool)}{want:Bool}{A B:Prop}(h:g=q):Aj g want A B=Aj q want A B:=by rw[h]
theorem NQ(b want:Bool)(A B:Prop):Aj (some (some b)) want A B=cn (b==want) A B:=rfl
theorem NP(want:Bool)(A B:Prop):Aj (some none) want A B=B:=rfl
theorem jI{all:GE}{s:AS}{a:Act}{j:Nat}{g:Option Bool}(u:∀d c x,(∃o,all[j]?=some o∧o.dst=some d)->s.t[d]?=some c->a.tmps[d]?=some x->RA D nu s.o w c x)(hlen:s.t.length=a.tmps.size)(h:nV all s j=some g):yielded all.toArray a.tmps j=g:=by
 unfold nV at h;unfold yielded;rw[List.getElem?_toArray]
 split at h
 ·grind
 ·rename_i o e;rw[e];simp only[Option.bind_some]
  split at h
  ·grind
  ·rename_i d O;rw[O];simp only[Option.bind_some]
   split at h
   ·grind
   ·rename_i b A;cases h;have H:=(aek.1 A).1;have q:a.tmps[d]?=some a.tmps[d]:=aer zd
    have:=(u d _ _ ⟨o,e,O⟩ A q).di
    rw[q,this]
   ·rename_i vs A;cases h;have H:=(aek.1 A).1;have q:a.tmps[d]?=some a.tmps[d]:=aer zd
    have:=(u d _ _ ⟨o,e,O⟩ A q).di
    rw[q,this]
   ·cases h
def oV(A B:Prop):Prop:=A∧B
theorem oV.mk{A B:Prop}(h:A)(k:B):oV A B:=⟨h,k⟩
def uo(y:kB)(l:Nat)(args:C5)(K:AV->kB->Prop):Prop:=match y with
 | .run l' (x::rest)=>(l=l'∧args=x∧aQ 0 x=true)∧oV (K (.v (.bool true)) (.run l' rest)) (K (.v (.bool false)) .off)
 |_=>False
@[congr] theorem Sq{y q:kB}{l u:Nat}{args args':C5}{K:AV->kB->Prop}(O:y=q)(H:l=u)(A:args=args'):uo y l args K=uo q u args' K:=by grind
theorem Hb(l q:Nat)(args x:C5)(rest:List C5)(K:AV->kB->Prop):uo (.run q (x::rest)) l args K=((l=q∧args=x∧aQ 0 x=true)∧oV (K (.v (.bool true)) (.run q rest)) (K (.v (.bool false)) .off)):=rfl
def VX(P:Program)(fv:AV)(args:C5)(dst:Option Tmp)(s:AS)(K:AS->Prop):Prop:=match fv with
 | .v (.func (.yield l) fi _)=>fi.size=0∧uo s.y l args (λr y=>K ⟨(s.put dst r s.o).t,s.o,y⟩)
 |fv=>VO P fv args s.o (λr o'=>K (s.put dst r o'))
@[congr] theorem XE{fv q:AV}{args args':C5}{dst:Option Tmp}{s:AS}{K:AS->Prop}(A:fv=q)(u:args=args'):VX P fv args dst s K=VX P q args' dst s K:=by rw[A,u]
theorem VY(g:FuncId)(first caps args:C5)(dst:Option Tmp)(s:AS)(K:AS->Prop):VX P (.fn g first caps) args dst s K=ah P g (first++args++caps) s.o (λr o'=>K (s.put dst r o')):=rfl
theorem Yq(l:Nat)(args:C5)(dst:Option Tmp)(s:AS)(K:AS->Prop):VX P (.v (.func (.yield l) #[] #[])) args dst s K=uo s.y l args (λr y=>K ⟨(s.put dst r s.o).t,s.o,y⟩):=by simp[VX]
def AY(P:Program)(op:Op)(dst:Option Tmp)(s:AS)(K:AS->Prop):Prop:=match op with
 | .call c=>match c.callee with
  | .value f=>VX P (s.ev f) (c.args.toList.map s.ev) dst s K
  |_=>Ed P op s (λr o'=>K (s.put dst r o'))
 |_=>Ed P op s (λr o'=>K (s.put dst r o'))
def vJ(P:Program)(all:GE)(oo:Oper)(s:AS)(K:AS->Prop):Prop:=match oo.guard with
 |none=>AY P oo.op oo.dst s K
 |some (j,want)=>Aj (nV all s j) want (AY P oo.op oo.dst s K) (K (s.put oo.dst (.v Go.undef) s.o))
def jT(P:Program)(all:GE):GE->AS->(AS->Prop)->Prop
 | [],s,Q=>Q s
 |oo::rest,s,Q=>vJ P all oo s (λs'=>jT P all rest s' Q)
@[congr] theorem VW{all ops:GE}{s s':AS}{Q:AS->Prop}(h:s=s'):jT P all ops s Q=jT P all ops s' Q:=by rw[h]
section
variable {D':Nat->Prop} {w':World}
theorem RA.keep(A:∀b,Fz D nu o w b->w'.heap[b]?=w.heap[b]? ∧Fz D' nu o w' b){a:AV}{x:Value}(hr:RA D nu o w a x):RA D' nu o w' a x:=by
 induction hr with
 |undef x=>exact .undef x
 |v x=>exact .v x
 |agg cs xs q _ U ih=>exact .agg cs xs q ih U
 |ck cs xs q _ ih=>exact .ck cs xs q ih
 |b6 z=>exact .b6 z
 |cp z a=>exact .cp z a
 |aA z rows len b off cap f q u U O h5 h6 _ h8 ih=>
  refine .aA z rows len b off cap f q u U (λY=>(A b (O Y)).2) h5 (λi j row c hr hc=>?_) ih h8
  grind[World.cell?_of_block]
 |vp cs b off f q u _ O ih=>
  refine .vp cs b off f (A b q).2 (λj c hc=>?_) ih O
  grind[World.cell?_of_block]
 |ptr id len z row off b q u=>exact .ptr id len z row off b q u
 |vec id len q u=>exact .vec id len q u
 |fn g first caps fi ca q u _ _ W V=>exact .fn g first caps fi ca q u W V
 |full a x q _ ih=>exact .full a x q ih
 |ju p a x S h0 q hc u _ ih=>exact .ju p a x S h0 (λb H=>(A b (q b H)).2) (λb H=>by grind) (λw2 hw=>u w2 (λb H=>(hw b H).trans (A b (q b H)).1)) ih
 |mp rows b es cl q u U O h5 h6 _ ih=>exact .mp rows b es cl (A b q).2 ((A b q).1.trans u) U O h5 h6 ih
theorem RO.nP(h:RO D nu o w){b:Nat}(H:owned nu o b):D b:=by
 obtain⟨id,ob,O,q⟩:=H
 rcases h.obj id ob O with⟨W,V,U⟩|⟨g,cur,A⟩|⟨g,es,cl,u⟩
 ·simp only[aa.hl,W,V,if_true,List.length_nil,U,dW,cW]at q;cases q
 ·rw[A.b8]at q;cases q;exact A.o4
 ·rw[u.b8]at q;cases q;exact u.o4
theorem RO.keep(h:RO D nu o w)(H:∀b,owned nu o b->w'.heap[b]?=w.heap[b]? ∧D' b)(Y:∀b,w'.heap.size<=b->D' b)(O:∀b,Fz D nu o w b->w'.heap[b]?=w.heap[b]? ∧Fz D' nu o w' b):RO D' nu o w':=by
 refine⟨λid ob hid=>?_,Y,h.sep,h.gl.fz O⟩
 rcases h.obj id ob hid with e|⟨g,cur,u⟩|⟨g,es,cl,A⟩
 ·exact .inl e
 ·have q:owned nu o g:=⟨id,ob,hid,u.b8⟩;exact .inr (.inl ⟨g,cur,(H g q).1.trans u.ez,(H g q).2,u.box,u.vec,u.z,u.row,λi j row c x W V U=>(u.cell i j row c x W V U).keep O,u.one⟩)
 ·have q:owned nu o g:=⟨id,ob,hid,A.b8⟩;exact .inr (.inr ⟨g,es,cl,A.tr (H g q).1 (λ_=>(H g q).2) rfl (λi j row c x _ _ u=>u.keep O)⟩)
end
structure JP(Z:Nat->Prop)(nu:EQ)(o:AC)(w:World)(nu':EQ)(o':AC)(w':World):Prop where
 os:w'.os=w.os
 tape:w'.tape=w.tape
 output:w'.output=w.output
 size:w.heap.size<=w'.heap.size
 wH:∀id len,id<o'.length->fg o id len->fg o' id len∧nu' id len=nu id len
 keep:∀b,b<w.heap.size-> ¬owned nu o b-> ¬Z b->w'.heap[b]?=w.heap[b]? ∧ ¬owned nu' o' b
theorem cf.toZ{Z:Nat->Prop}{nu nu':EQ}{o o':AC}{w w':World}(h:cf nu o w nu' o' w'):JP Z nu o w nu' o' w':=⟨h.os,h.tape,h.output,h.size,λid len _ q=>h.wH id len q,λb A u _=>h.keep b A u⟩
structure WM(P:Program)where
 n0:Nat
 fix:Nat->Prop
 M:(Nat->Prop)->(EQ)->AC->(Nat->Prop)->kB->World->Prop
 step:∀{D D' nu o Z Z' y w nu' o' w'},M D nu o Z y w->RO D nu o w->JP Z nu o w nu' o' w'->RO D' nu' o' w'->(∀c v,RA D nu o w c v->c.wf o'.length=true->RA D' nu' o' w' c v)->(∀b,D' b->D b∨Z b)->(∀b,D b->D' b∨Z' b) ->
  (∀b,Z' b->b<w'.heap.size∧ ¬D' b∧(Z b∨owned nu o b∨w.heap.size<=b))->n0<=o'.length->M D' nu' o' Z' y w'
 so:∀{D nu o Z y w},M D nu o Z y w->(∀b,Z b->b<w.heap.size∧ ¬D b)∧n0<=o.length∧∀b,fix b->b<w.heap.size∧ ¬Z b∧ ¬D b
 yield:∀{D nu o Z l x rest w}{vals:Array Value},M D nu o Z (.run l (x::rest)) w->RO D nu o w->gy D nu o w x vals->aQ 0 x=true ->
  YieldAt (WF none) 8 P l vals w (λe w'=>(w'.os=w.os∧w'.tape=w.tape∧w'.output=w.output∧w.heap.size<=w'.heap.size∧∀b,b<w.heap.size->D b∨Z b∨owned nu o b∨fix b->w'.heap[b]?=w.heap[b]?) ∧
   ((e=.returned (.bool true)∧M (λb=>D b∧ ¬(w.heap.size<=b∧b<w'.heap.size)) nu o Z (.run l rest) w')∨(e=.returned (.bool false)∧M (λb=>D b∧ ¬(w.heap.size<=b∧b<w'.heap.size)) nu o Z .off w')))
theorem WM.own{P:Program}(m:WM P){D:Nat->Prop}{nu nu':EQ}{o o':AC}{Z:Nat->Prop}{y:kB}{w w':World}(h:m.M D nu o Z y w)(A:RO D nu o w)(u:cf nu o w nu' o' w')(hro':RO D nu' o' w'):m.M D nu' o' Z y w':=by
 refine m.step h A u.toZ hro' (λc v O _=>O.mono u (λ_ _ h=>h)) (λ_ h=> .inl h) (λ_ h=> .inl h) (λb H=>⟨Nat.lt_of_lt_of_le ((m.so h).1 b H).1 u.size,((m.so h).1 b H).2,.inl H⟩) ?_;have V:=(m.so h).2.1
 rcases Nat.eq_zero_or_pos o.length with q|q
 ·omega
 ·have e:=aes (show o.length-1<o.length by omega);obtain⟨U,_⟩:=u.wH (o.length-1) 0 ⟨_,e,λ_ _=>Nat.zero_le _⟩
  have:=j9 U
  omega
theorem RS.others{f:Fr}{s:AS}{a:Act}{w':World}(h:RS f D nu s a w)(A:w.heap.size<=w'.heap.size)(H:∀b,b<w.heap.size->D b∨owned nu s.o b∨f.r=some b∨f.Z b->w'.heap[b]?=w.heap[b]?)(y:kB):RS f (λb=>D b∧ ¬(w.heap.size<=b∧b<w'.heap.size)) nu ⟨s.t,s.o,y⟩ a w':=by
 have U:∀b,Fz D nu s.o w b->w'.heap[b]?=w.heap[b]? ∧Fz (λb=>D b∧ ¬(w.heap.size<=b∧b<w'.heap.size)) nu s.o w' b:=λb u=>⟨H b u.1 (.inl u.2.2),Nat.lt_of_lt_of_le u.1 A,u.2.1,u.2.2,λO=>by have:=u.1;omega⟩;refine⟨h.ro.keep (λb q=>⟨H b (h.ro.bL q) (.inr (.inl q)),h.ro.nP q,λO=>by have:=h.ro.bL q;omega⟩) (λb q=>⟨h.ro.up b (Nat.le_trans A q),λO=>zd⟩) U,⟨h.tm.len,λi c x W V=>(h.tm.at' i c x W V).keep U⟩,h.mh.keep A (λb ob Y q _=>?_)⟩
 grind
theorem J5{f:Fr}(m:WM P)(hZr:∀l,f.r=some l->m.fix l){s:AS}{a:Act}{oo:Oper}{K:AS->Prop}{next:Act->World->Prop}{Q:Exit->Act->World->Prop}(hcalm:∀c,oo.op ≠ .defer c)(W:m.M D nu s.o f.Z s.y w)(u:RS f D nu s a w)(q:AY P oo.op oo.dst s K)
  (hk:∀D' v w' nu' s',m.M D' nu' s'.o f.Z s'.y w'->RS f D' nu' s' (a.put oo.dst v) w'->K s'->next (a.put oo.dst v) w'):oo.wpIn (WF f.r) 9 P a w next Q:=by
 have plain:Ed P oo.op s (λr o'=>K (s.put oo.dst r o'))->oo.wpIn (WF f.r) 9 P a w next Q:=λq=>by
  have h:=Et (P:=P) (next:=λa' w'=>next a' w') (Q:=λe a' w'=>e ≠ .outgrown∧Q e a' w') u.ro (λx _=>u.ev x) q (λv w' nu' r o' m1 m2 m3 m4=>hk D v w' nu' (s.put oo.dst r o') (m.own W u.ro m1 m2) (u.put m1 m2 m3 oo.dst) m4);refine⟨λf _=>trivial,?_⟩;rw[Oper.semAt_eq _ _ oo hcalm];unfold Oper.wp at h;generalize(execOp a.eval oo).run P w=res at h;unfold Oper.upon at h;unfold Oper.uponIn
  split at h
  ·exact h
  ·exact h
  ·exact h
  ·refine⟨λe=>(by cases e),nN (h.mono λe w' A=>?_)⟩
   cases e with
   |returned v=>exact A
   |panicked ch=>exact A.2
   |outgrown=>obtain⟨_,_,hh⟩:=A;grind
  ·grind[Bz]
  ·exact h.2
  grind
 unfold AY at q
 split at q
 ·rename_i c ho
  split at q
  ·rename_i fo hc;unfold VX at q
   split at q
   ·rename_i l fi ca e;have hf:=(u.ev fo).RP e;obtain⟨hfi,q⟩:=q;obtain rfl:fi = #[]:=Array.eq_empty_of_size_eq_zero hfi;unfold uo at q
    split at q
    ·rename_i l' x rest hy;obtain⟨⟨rfl,hx,hw⟩,h1,h2⟩:=q
     have V:gy D nu s.o w x (c.args.map a.eval):=by
      rw[<-hx];refine⟨zk,λi cc v H O=>?_⟩;rw[aeu]at H;rw[aeU]at O
      have e2:c.args.toList[i]?=c.args[i]? :=zk
      rw[e2]at H
      cases Y:c.args[i]? with
      |none=>grind
      |some z=>
       rw[Y]at H O;cases H;cases O;exact u.ev z
     rw[hy]at W;obtain⟨fn,tmps,assign,body,hrun,hround⟩:=m.yield W u.ro V hw;refine⟨λf _=>trivial,?_⟩;rw[Oper.semAt_eq _ _ oo hcalm]
     have hrun':(execOp a.eval oo).run P w=.ok (.round l fn tmps assign body) w:=by
      grind[execOp,resolve,Deferred.ofValue,Sem.run_bind,Sem.run_pure,Result.andThen_ok,invoke]
     rw[hrun'];refine⟨λe=>(by cases e),(Nh hround).mono λe w' A=>?_⟩;obtain⟨⟨_,_,_,U,hkeep⟩,m4⟩:=A
     have fin:∀b y,m.M (λb=>D b∧ ¬(w.heap.size<=b∧b<w'.heap.size)) nu s.o f.Z y w'->K ⟨(s.put oo.dst (.v (.bool b)) s.o).t,s.o,y⟩->next (a.put oo.dst (.bool b)) w':=λb y hM hK=>by
      have h2:=u.others U (λb hb hh=>hkeep b hb (by grind)) y;exact hk _ (.bool b) w' nu ⟨(s.put oo.dst (.v (.bool b)) s.o).t,s.o,y⟩ hM (h2.put (.refl nu s.o w') h2.ro (.v _) oo.dst) hK
     grind
    grind
   grind[Ed]
  grind
 grind
theorem mK{all:GE}{f:Fr}(m:WM P)(A:∀l,f.r=some l->m.fix l){Q:AS->Prop}{R:Exit->Act->World->Prop}:∀(ops:GE)(s:AS)(a:Act)(w:World)(D:Nat->Prop)(nu:EQ),(∀oo,oo∈ops->∀c,oo.op ≠ .defer c)->m.M D nu s.o f.Z s.y w->RS f D nu s a w->jT P all ops s Q ->
  (∀D' s' a' w' nu',m.M D' nu' s'.o f.Z s'.y w'->RS f D' nu' s' a' w'->Q s'->R .normal a' w')->wpListIn (WF f.r) 9 P all.toArray R ops a w
 | [],s,a,w,D,nu,_,O,u,q,U=>U D s a w nu O u q
 |oo::rest,s,a,w,D,nu,hcalm,O,u,q,U=>by
  have H:AY P oo.op oo.dst s (λs'=>jT P all rest s' Q)->oo.wpIn (WF f.r) 9 P a w (wpListIn (WF f.r) 9 P all.toArray R rest) R:=λY=>
   J5 m A (hcalm oo List.mem_cons_self) O u Y (λD' v w' nu' s' m1 m2 m3=>mK m A rest s' _ w' D' nu' (λo W=>hcalm o (aeX _ W)) m1 m2 m3 U)
  have hskip:jT P all rest (s.put oo.dst (.v Go.undef) s.o) Q->wpListIn (WF f.r) 9 P all.toArray R rest (a.put oo.dst Go.undef) w:=λY=>
   mK m A rest _ _ w D nu (λo W=>hcalm o (aeX _ W)) (by simpa only[AS.put]using O) (u.put (.refl nu s.o w) u.ro (.v _) oo.dst) Y U
  simp only[jT,vJ]at q;simp only[wpListIn]
  split at q
  ·rename_i hg
   have:Region.wanted oo (yielded all.toArray a.tmps)=true:=by grind[Region.wanted]
   grind
  ·rename_i j want hg;unfold Aj at q
   split at q
   ·rename_i b e;have hy:=jI (w:=w) (λd c x _ h1 h2=>u.tm.at' d c x h1 h2) u.tm.len e
    have V:Region.wanted oo (yielded all.toArray a.tmps)=(b==want):=by grind[Region.wanted]
    rw[V]
    cases hb:b==want
    ·rw[hb]at q;simp only[Bool.false_eq_true,if_false];exact⟨λf _=>trivial,hskip q⟩
    ·rw[hb]at q;simp only[if_true];exact H q
   ·rename_i e;have hy:=jI (w:=w) (λd c x _ h1 h2=>u.tm.at' d c x h1 h2) u.tm.len e
    have V:Region.wanted oo (yielded all.toArray a.tmps)=false:=by grind[Region.wanted]
    rw[V];simp only[Bool.false_eq_true,if_false];exact⟨λf _=>trivial,hskip q⟩
   grind
end
def JQ(P:Program)(T:TypeId)(o:AC)(a b:AV):Option (Prop×AV):=
 match jO P T,a with
 |some (_,z,bytes),.full (.aA z' rows len)=>match rD o z b with
  |some (p,rows2)=>some (z'=z∧p∧(len+rows2.length)*bytes<=70368744177664∧len+rows2.length<=70368744177664,.aA z (rows.take len++rows2) (len+rows2.length))
  |none=>none
 |some (_,z,bytes),.v (.slice none 0 0)=>match rD o z b with
  |some (p,rows2)=>some (p∧rows2.length*bytes<=70368744177664∧rows2.length<=70368744177664,.aA z rows2 rows2.length)
  |none=>none
 |_,_=>none
def Hl(P:Program)(ev:Operand->AV)(o:AC):List Operand->List TypeId->Option (Prop×AV)
 | [x,y],[T,T']=>if T=T' then JQ P T o (ev x) (ev y).st else none
 |_,_=>none
def Hv(P:Program)(ev:Operand->AV)(o:AC)(op:Op):Option (Prop×AV):=match op with
 | .buildSlice T len parts=>match iG P T len [] (parts.toList.map λp=>(p.1,ev p.2))with
  |some (_,[some ob])=>some (True,.aA ob.z ob.rows len)
  |_=>none
 | .box _ x=>match(ev x).cells? with
  |some cs=>some (True,.vp cs)
  |none=>none
 | .slice T x lo hi mx=>match(ev x).st with
  | .vec _ _=>none
  |a=>match rC P T o a (lo.map ev) (hi.map ev) (mx.map ev)with
   |some (p,r,_)=>some (p,r)
   |none=>none
 | .call c=>match c.callee with
  | .builtin .append=>Hl P ev o c.args.toList c.argTypes.toList
  |_=>zV P ev o (.call c)
 |op=>zV P ev o op
section
variable {D:Nat->Prop} {nu:EQ} {o:AC} {w:World} {P:Program}
theorem Im(h:RO D nu o w)(ob:Obj):Fz D nu o (w.alloc ob) w.heap.size:=⟨zk,λq=>by have:=h.bL q;omega,h.up _ (aed _)⟩
theorem kQ(w:World)(ob:Obj):Below w.heap.size w (w.alloc ob):=(Below.refl _ _).alloc (aed _) _
theorem RA.abX{z len:Nat}{rows:List C5}{v:Value}(h:RA D nu o w (.aA z rows len) v):RA D nu o w (.aA z (rows.take len) len) v:=by
 cases h with
 |b6=>simpa using RA.b6 z
 |cp _ a=>simpa using RA.cp z a
 |aA _ _ _ b off cap f h1 Y W V U O H A=>
  have q:∀(i:Nat)row,(rows.take len)[i]?=some row->rows[i]?=some row:=λi row hi=>by
   grind
  exact .aA z _ len b off cap f ahn ahn W (λu=>V (λe=>u (by rw[e];simp))) (λi row hi=>U i row (q i row hi)) (λi j row c hi=>O i j row c (q i row hi)) (λi j row c hi=>H i j row c (q i row hi)) (λi j row c hi=>A i j row c (q i row hi))
theorem Hm{T:TypeId}(ty:TypeId)(h:RO D nu o w){a b:AV}{x y:Value}(U:RA D nu o w a x)(hs:RA D nu o w b y){p:Prop}{r:AV}(hl:JQ P T o a b=some (p,r))(hp:p) :
  ∃v w',(Builtin.append_ #[T,T] ty #[x,y]).run P w=.ok v w'∧Below w.heap.size w w'∧RA D nu o w' r v:=by
 have main:∀(e:TypeId)(z bytes:Nat)(rows:List C5)(len:Nat)(p':Prop)(rows2:List C5),jO P T=some (e,z,bytes)->RA D nu o w (.full (.aA z rows len)) x->rD o z b=some (p',rows2)->p'->(len+rows2.length)*bytes<=70368744177664->len+rows2.length<=70368744177664 ->
   ∃v w',(Builtin.append_ #[T,T] ty #[x,y]).run P w=.ok v w'∧Below w.heap.size w w'∧RA D nu o w' (.aA z (rows.take len++rows2) (len+rows2.length)) v:=by
  intro e z bytes rows len p' rows2 ht U e2 V Y h63;obtain⟨hu,i,zv,hi,_,_,hz0,_,_⟩:=gw ht
  by_cases W:rows2=[]
  ·subst W
   have hx:RA D nu o w (.aA z (rows.take len++[]) (len+([]:List C5).length)) x:=by
    simp only[List.append_nil,List.length_nil,Nat.add_zero]
    cases U with
    |full _ _ _ h2=>exact h2.abX
   refine⟨x,w,?_,.refl _ _,hx⟩
   cases U with
   |full _ _ h1 h2=>
   obtain⟨ad,n,rfl⟩:=h1
   have hy:∃q c,y=.slice q 0 c:=by
    grind[lV]
   obtain⟨q,c,rfl⟩:=hy;cases ad<;>cases q<;>simp[Builtin.append_,run_underlying hu,sizeOf,typeInfo,hi,Builtin.lenOf,Builtin.firstCells,loadCells,loadCellsFrom,storeCells]
  ·obtain⟨cap,cur,O,hg,hlr,hc1,hc2,hcs⟩:=Gf ty ht h U hs e2 V W Y h63;refine⟨_,_,O,((Below.refl _ w).drew).alloc (aed _) _,?_⟩;have hb:Below w.heap.size w w.drew:=(Below.refl _ _).drew;have hb':Below w.heap.size w (w.drew.alloc (.cells cur e)):=hb.alloc (aed _) _
   have H:∀(i j:Nat)row c,(rows.take len++rows2)[i]?=some row->row[j]?=some c->cur[i*z+j]?=some (cur.getD (i*z+j) Go.undef):=λi j row c A u=>by
    obtain⟨x,q1,_⟩:=hg.cell i j row c A u
    simp_all
   have hfz:Fz D nu o (w.drew.alloc (.cells cur e)) w.heap.size:=Im (h.below hb) _
   refine .aA z _ _ _ 0 cap (λi j=>cur.getD (i*z+j) Go.undef) zd zd hc2 (λ_=>hfz) hg.row (λi j row c A u=>?_) (λi j row c A u=>?_) (λi j row c A u=>?_)
   ·rw[<-H i j row c A u,aeY];exact cell_of_row _ _ _ _ _ _ (heap_alloc_new w.drew _)
   ·obtain⟨x,q1,q2,_⟩:=hg.cell i j row c A u
    have:=H i j row c A u
    rw[q1]at this;rw[<-aec this];exact q2.mono (aH hb') (λ_ _ h=>h)
   ·obtain⟨x,q1,_,q3⟩:=hg.cell i j row c A u
    grind
 unfold JQ at hl
 split at hl
 ·grind
 ·rename_i e z bytes ht
  split at hl
  ·rename_i p' rows2 e2;cases hl;obtain⟨V,Y,h63⟩:=hp
   have hr':RA D nu o w (.full (.aA z [] 0)) x:=by
    obtain rfl:=U.di;exact .full _ _ ⟨_,_,rfl⟩ (.b6 z)
   grind
  ·cases hl
 ·cases hl
theorem Lv{ev:Operand->AV}{rho:Operand->Value}{oo:Oper}(h:RO D nu o w)(H:Sr D nu o w ev rho oo.op){p:Prop}{r:AV}(u:Hv P ev o oo.op=some (p,r))(hp:p) :
  ∃v w',(execOp rho oo).run P w=.ok (.value v) w'∧Below w.heap.size w w'∧RA D nu o w' r v:=by
 unfold Hv at u
 split at u
 ·rename_i T len parts O
  split at u
  ·rename_i r' ob hb;cases u
   obtain⟨e,z,rows,ys,_,V,h3,hz0,hlm,hys,hg,hrun⟩:=Q5 (D:=D) (nu:=nu) (o:=o) (w:=w) (P:=P) (vs:=parts.map λ(i,x)=>(i,rho x)) zk (λk p q a b=>by
    rw[List.getElem?_map]at a;rw[Array.getElem?_map]at b
    have e:parts.toList[k]?=parts[k]? :=zk
    rw[e]at a
    cases hk:parts[k]? with
    |none=>grind
    |some pr=>
     rw[hk]at a b;cases a;cases b
     exact⟨rfl,H pr.2 (by
      grind[Op.operands,List.mem_of_getElem?])⟩) hb
   simp only[List.nil_append,List.cons.injEq,aep,and_true]at V;subst V
   have hrun':((do pure (Next.value (<-Instr.buildSlice T len (parts.map λ(i,x)=>(i,rho x)))):Sem Next)).run P w=.ok (.value (.slice (some ⟨w.heap.size,0,none⟩) len len)) (w.alloc (.cells ys e)):=by simp_all
   refine⟨_,_,by simpa only[execOp,O]using hrun',kQ _ _,?_⟩
   have A:∀(i j:Nat)row c,rows[i]?=some row->row[j]?=some c->ys[i*z+j]?=some (ys.getD (i*z+j) Go.undef):=λi j row c Y W=>by
    obtain⟨x,q1,_⟩:=hg.cell i j row c Y W
    simp_all
   refine .aA z rows len _ 0 len (λi j=>ys.getD (i*z+j) Go.undef) zd zd (by grind[maxLen]) (λ_=>Im h _) hg.row (λi j row c Y W=>?_) (λi j row c Y W=>?_) (λi j row c Y W=>?_)
   ·rw[<-A i j row c Y W,aeY]
    grind[cell_of_row,heap_alloc_new]
   ·obtain⟨x,q1,q2,_⟩:=hg.cell i j row c Y W
    have:=A i j row c Y W
    rw[q1]at this;rw[<-aec this];exact q2.mono (aH (kQ w _)) (λ_ _ h=>h)
   ·obtain⟨x,q1,_,q3⟩:=hg.cell i j row c Y W
    grind
  ·cases u
 ·rename_i T x O;have hx:=H x (by grind[Op.operands])
  split at u
  ·rename_i cs hc;cases u;have hcs:=hx.one hc;refine⟨.pointer (some ⟨w.heap.size,0,none⟩),w.alloc (.cells (rho x).cells T),by simp[execOp,O,Instr.box,newVar,newRow],kQ _ _,?_⟩
   have A:∀(j:Nat)c,cs[j]?=some c->(rho x).cells[j]?=some ((rho x).cells.getD j Go.undef):=λj c k=>by
    have:=(aek.1 k).1
    have hl:=hcs.len
    simp_all
   refine .vp cs _ 0 (λj=>(rho x).cells.getD j Go.undef) (Im h _) (λj c k=>?_) (λj c k=>?_) (λj c k=>?_)
   ·rw[<-A j c k,aeY]
    grind[cell_of_row,heap_alloc_new]
   ·exact(hcs.at' j c _ k (A j c k)).mono (aH (kQ w _)) (λ_ _ h=>h)
   ·exact hcs.one j _ (A j c k)
  ·cases u
 ·rename_i T x lo hi mx O
  split at u
  ·cases u
  ·rename_i hne
   split at u
   ·rename_i p' r' o' hb;cases u;obtain⟨v,h1,V,_⟩:=zB (P:=P) (H x (by grind[Op.operands])).st (mV (rho:=rho) (λy hy=>H y (by grind[Op.operands]))) (mV (rho:=rho) (λy hy=>H y (by grind[Op.operands]))) (mV (rho:=rho) (λy hy=>H y (by grind[Op.operands]))) hb hp (λid len e=>hne id len e);refine⟨v,w,?_,.refl _ _,V⟩
    grind[execOp,Sem.run_bind,Result.andThen_ok,Sem.run_pure]
   ·cases u
 ·rename_i c O
  split at u
  ·rename_i hc;have U:∀x,x∈c.args.toList->RA D nu o w (ev x) (rho x):=λx hx=>H x (by grind[Op.operands,Call.operands]);obtain⟨callee,args,argTypes⟩:=c;simp only at hc u U;subst hc;obtain⟨args⟩:=args;obtain⟨argTypes⟩:=argTypes;simp only at u U;unfold Hl at u
   split at u
   ·rename_i x y T T'
    split at u
    ·rename_i hT;subst hT;obtain⟨v,w',h1,V,h3⟩:=Hm (P:=P) oo.type h (U x zk) (U y zk).st u hp;exact⟨v,w',by simp[execOp,O,resolve,invoke,builtin,h1],V,h3⟩
    ·cases u
   ·cases u
  ·obtain⟨v,h1,V⟩:=lq (P:=P) h H (by rw[O];exact u) hp;exact⟨v,w,h1,.refl _ _,V⟩
 ·obtain⟨v,h1,V⟩:=lq (P:=P) h H u hp;exact⟨v,w,h1,.refl _ _,V⟩
def JE(x:Option (Prop×AV))(K:AV->Prop):Prop:=match x with
 |some (p,r)=>p∧K r
 |none=>False
@[congr] theorem XA{x y:Option (Prop×AV)}{K:AV->Prop}(h:x=y):JE x K=JE y K:=by rw[h]
theorem NV(p:Prop)(r:AV)(K:AV->Prop):JE (some (p,r)) K=(p∧K r):=rfl
theorem NX(r:AV)(K:AV->Prop):JE (some (True,r)) K=K r:=by simp[JE]
mutual
def jD(o:AC):Nat->AV->Option (Prop×AV)
 |0,_=>none
 |_+1,.vec id len=>match o[id]? with
  |some (some ob)=>some (ob.fc=true∧ob.rows.length=len∧bE 0 ob.rows=true,.aA ob.z ob.rows len)
  |_=>none
 |n+1,.ptr id len z row off=>match o[id]? with
  |some (some ob)=>match iY o n (ob.rows.getD row [])with
   |some (p,cs)=>some (p∧ob.hl=len∧ob.z=z∧row<ob.rows.length,.vp (cs.drop off))
   |none=>none
  |_=>none
 |n+1,.agg cs=>match iY o n cs with
  |some (p,cs')=>some (p,.agg cs')
  |none=>none
 |n+1,.fn g fi ca=>match iY o n fi,iY o n ca with
  |some (p,fi'),some (q,ca')=>some (p∧q,.fn g fi' ca')
  |_,_=>none
 |n+1,.ck cs=>match iY o n cs with
  |some (p,cs')=>some (p,.ck cs')
  |none=>none
 |n+1,.full b=>match jD o n b with
  |some (p,b')=>some (p,.full b')
  |none=>none
 |n+1,.ju q b=>match jD o n b with
  |some (p,b')=>some (p,.ju q b')
  |none=>none
 |_+1,a=>some (a.wf 0=true,a)
def iY(o:AC):Nat->C5->Option (Prop×C5)
 |0,_=>none
 |_+1,[]=>some (True,[])
 |n+1,a::l=>match jD o n a,iY o n l with
  |some (p,b),some (q,m)=>some (p∧q,b::m)
  |_,_=>none
end
theorem pJ(h:RO D nu o w):∀(n:Nat),(∀(a:AV)(x:Value)(p:Prop)(r:AV),jD o n a=some (p,r)->p->RA D nu o w a x->RA D nu [] w r x) ∧
  (∀(l:C5)(p:Prop)(m:C5),iY o n l=some (p,m)->p->l.length=m.length∧∀(i:Nat)a b x,l[i]?=some a->m[i]?=some b->RA D nu o w a x->RA D nu [] w b x)
 |0=>⟨λa x p r u=>by grind[jD],λl p m u=>by grind[iY]⟩
 |n+1=>by
  have hF:∀id ob g cur,o[id]?=some (some ob)->B8 D nu o w id ob g cur->Fz D nu [] w g:=λid ob g cur _ A=>⟨(Array.getElem?_eq_some_iff.1 A.ez).1,br _ _,A.o4⟩;have hFz:∀b,Fz D nu o w b->Fz D nu [] w b:=λb A=>⟨A.1,br _ _,A.2.2⟩;obtain⟨ih1,V⟩:=pJ h n;have cl:∀(a:AV)(x:Value),a.wf 0=true->RA D nu o w a x->RA D nu [] w a x:=λa x ha hr=>hr.tr (n:=0) hFz (λid len hlt=>zd) ha
  constructor
  ·intro a x p r u hp hr
   cases a with
   |vec id len=>
    simp only[jD]at u
    split at u
    ·rename_i ob ho;cases u;obtain⟨hv,rfl,hw⟩:=hp;cases hr;exact(my h ho hv).tr (n:=0) (λb A=>⟨A.1,br _ _,A.2.2⟩) (λid len hlt=>zd) (by grind[AV.wf])
    ·cases u
   |ptr id len z row off=>
    simp only[jD]at u
    split at u
    ·rename_i ob ho
     split at u
     ·rename_i q cs e;cases u;obtain⟨hq,rfl,rfl,hlt⟩:=hp;obtain⟨hl,O⟩:=V _ _ _ e hq
      cases hr with
      |ptr _ _ _ _ _ b h1 Y=>
      rcases h.obj id ob ho with⟨e1,e2,e3⟩|⟨g,cur,A⟩|⟨g,es,cl,hmp⟩
      rotate_left 2
      ·exact absurd Y (hmp.Qi (aed _))
      ·grind
      ·rw[A.qq]at Y;cases Y;have H:ob.rows[row]?=some ob.rows[row]:=aes hlt;rw[getD_some H]at hl O
       have W:∀(j:Nat)c,cs[j]?=some c->∃c0,ob.rows[row][j]?=some c0∧cur[row*ob.z+j]?=some (cur.getD (row*ob.z+j) Go.undef):=λj c U=>by
        have hj:j<ob.rows[row].length:=by grind
        have:=A.qZ H hj
        simp_all
       refine .vp _ b _ (λj=>cur.getD (row*ob.z+(off+j)) Go.undef) (hF id ob b cur ho A) (λj c U=>?_) (λj c U=>?_) (λj c U=>?_)
       ·rw[aeZ]at U;obtain⟨c0,k1,k2⟩:=W _ c U;rw[<-k2,show row*ob.z+off+j=row*ob.z+(off+j) by omega];exact cell_of_row _ _ _ _ _ _ A.ez
       ·rw[aeZ]at U;obtain⟨c0,k1,k2⟩:=W _ c U;exact O _ c0 c _ k1 U (A.cell row _ _ c0 _ H k1 k2)
       ·rw[aeZ]at U;obtain⟨c0,k1,k2⟩:=W _ c U;exact A.one row _ _ c0 _ H k1 k2
     ·cases u
    ·cases u
   |agg cs=>
    simp only[jD]at u
    split at u
    ·rename_i q cs' e;cases u;obtain⟨hl,O⟩:=V _ _ _ e hp
     cases hr with
     |agg _ xs h1 Y h3=>
      refine .agg _ _ zd (λi c x q1 q2=>?_) h3
      grind
    ·cases u
   |ck cs=>
    simp only[jD]at u
    split at u
    ·rename_i q cs' e;cases u;obtain⟨hl,O⟩:=V _ _ _ e hp
     cases hr with
     |ck _ xs h1 Y=>
      refine .ck _ _ zd (λi c x q1 q2=>?_)
      grind
    ·cases u
   |full b=>
    simp only[jD]at u
    split at u
    ·rename_i q b' e;cases u
     cases hr with
     |full _ _ h1 Y=>exact .full _ _ h1 (ih1 _ _ _ _ e hp Y)
    ·cases u
   |ju q b=>
    simp only[jD]at u
    split at u
    ·rename_i q' b' e;cases u
     cases hr with
     |ju _ _ _ S h0 h1 U Y h3=>exact .ju _ _ _ S h0 (λb A=>hFz b (h1 b A)) U Y (ih1 _ _ _ _ e hp h3)
    ·cases u
   |fn g fi ca=>
    simp only[jD]at u
    split at u
    ·rename_i q fi' q' ca' e1 e2;cases u;obtain⟨hl1,hall1⟩:=V _ _ _ e1 hp.1;obtain⟨hl2,hall2⟩:=V _ _ _ e2 hp.2
     cases hr with
     |fn _ _ _ xf xc h1 Y h3 h4=>
      refine .fn _ _ _ _ _ zd zd (λi c x q1 q2=>?_) (λi c x q1 q2=>?_)
      ·grind
      grind
    ·cases u
   |_=>simp only[jD,aep,aeq]at u;grind
  ·intro l p m u hp
   cases l with
   |nil=>
    simp only[iY,aep,aeq]at u
    grind
   |cons a l=>
    grind[iY]
theorem H7{f:FuncId}{args args':C5}{r:AV}{vargs:Array Value}(hc:aj P f args' r){n:Nat}{p:Prop}(U:iY o n args=some (p,args'))(W:p)(hf:r.flat=true)(h:RO D nu o w)(A:gy D nu o w args vargs) :
  Calls P f vargs w (λe w'=>∃v,e=.returned v∧Below w.heap.size w w'∧RA D nu o w' r v):=by
 obtain⟨hl,q⟩:=(pJ h n).2 _ _ _ U W
 refine(hc.2.2 (λ_=>True) nu w vargs (.nil _ _ _ (λ_ _=>trivial) (h.gl.nil (λ_ _ _=>trivial))) ⟨by rw[<-hl];exact A.len,λi c x O H=>?_⟩).mono ?_
 ·have hi:i<args.length:=by grind
  exact(q i _ c x (aes hi) O (A.at' i _ x (aes hi) H)).mono (.refl _ _ _) (λ_ _ _=>trivial)
 ·rintro e w' ⟨v,nu',o',r',rfl,Y,V,u,rfl,rfl⟩;exact⟨v,rfl,jj Y,u.flat hf⟩
def Ys(P:Program)(f:FuncId)(args:C5)(o:AC)(r:AV):Prop:=fQ P f=true∧∀D nu w vargs,RO D nu o w->gy D nu o w args vargs->Calls P f vargs w (λe w'=>∃v,e=.returned v∧Below w.heap.size w w'∧RA D nu o w' r v)
def bQ(P:Program)(f:FuncId)(args:C5)(o:AC)(K:AV->Prop):Prop:=∃r,Ys P f args o r∧K r
@[congr] theorem Sh{f:FuncId}{args args':C5}{K:AV->Prop}(h:args=args'):bQ P f args o K=bQ P f args' o K:=by rw[h]
theorem bQ.one{f:FuncId}{args:C5}{r:AV}{K:AV->Prop}(h:aj P f args r)(k:K r):bQ P f args o K:=⟨r,⟨h.2.1,λ_ _ _ _ u q=>rI h u q⟩,k⟩
theorem bQ.CA{f:FuncId}{args args':C5}{r:AV}{K:AV->Prop}(h:aj P f args' r)(n:Nat){p:Prop}(q:iY o n args=some (p,args'))(u:p)(A:r.flat=true)(k:K r):bQ P f args o K:=⟨r,⟨h.2.1,λ_ _ _ _ O H=>H7 h q u A O H⟩,k⟩
def G9(P:Program)(f:AV)(args:C5)(o:AC)(K:AV->Prop):Prop:=match f with
 | .fn g first caps=>bQ P g (first++args++caps) o K
 |_=>False
@[congr] theorem VQ{f f':AV}{args args':C5}{K:AV->Prop}(h:f=f')(k:args=args'):G9 P f args o K=G9 P f' args' o K:=by rw[h,k]
theorem Sk(g:FuncId)(first caps args:C5)(K:AV->Prop):G9 P (.fn g first caps) args o K=bQ P g (first++args++caps) o K:=rfl
def dM(P:Program)(op:Op)(s:AS)(K:AV->Prop):Prop:=match op with
 | .pick c a b=>match s.ev c with
  | .v (.bool t)=>cn t (K (s.ev a)) (K (s.ev b))
  |_=>False
 | .call c=>match c.callee with
  | .value f=>G9 P (s.ev f) (c.args.toList.map s.ev) s.o K
  |_=>JE (Hv P s.ev s.o (.call c)) K
 |op=>JE (Hv P s.ev s.o op) K
theorem lp{s:AS}{rho:Operand->Value}{oo:Oper}{K:AV->Prop}(h:RO D nu s.o w)(u:Sr D nu s.o w s.ev rho oo.op)(O:dM P oo.op s K) :
  ∃r,K r∧zS P ⟨λv w=>RO D nu s.o w∧RA D nu s.o w r v,λ_ _ _ H q=>⟨q.1.below H,q.2.mono (aH H) (λ_ _ h=>h)⟩⟩ w ((execOp rho oo).run P w):=by
 have hop:∀op,oo.op=op->JE (Hv P s.ev s.o op) K->∃r,K r∧zS P ⟨λv w=>RO D nu s.o w∧RA D nu s.o w r v,λ_ _ _ H q=>⟨q.1.below H,q.2.mono (aH H) (λ_ _ h=>h)⟩⟩ w ((execOp rho oo).run P w):=by
  intro op U q;subst U;unfold JE at q
  split at q
  ·rename_i p r e;obtain⟨v,w',h1,h2,h3⟩:=Lv (P:=P) h u e q.1;rw[h1];exact⟨r,q.2,⟨h.below h2,h3⟩,h2⟩
  grind
 unfold dM at O
 split at O
 ·rename_i c x y U;have hc:=u c (by grind[Op.operands])
  split at O
  ·rename_i t e;rw[e]at hc;have hcv:=hc.di
   have A:(execOp rho oo).run P w=.ok (.value (if t then rho x else rho y)) w:=by simp[execOp,U,hcv,asBool]
   rw[A]
   cases t
   ·exact⟨_,O,⟨h,u y (by grind[Op.operands])⟩,.refl _ _⟩
   ·exact⟨_,O,⟨h,u x (by grind[Op.operands])⟩,.refl _ _⟩
  grind
 ·rename_i c U
  split at O
  ·rename_i f hc;unfold G9 at O
   split at O
   ·rename_i g first caps e
    obtain⟨r,hcall,hk⟩:=O

    have key:∀(K':AV->AC->Prop),ah P g (first++c.args.toList.map s.ev++caps) s.o K'->Ed P oo.op s K':=λK' q=>by
     grind[Ed,VO]
    have Y:=u f (by grind[Op.operands,Call.operands]);rw[e]at Y;generalize hq:rho f=vf at Y
    cases Y with
    |fn _ _ _ fi ca q1 q2 q3 q4=>
    have hargs:∀x,x∈c.args.toList->RA D nu s.o w (s.ev x) (rho x):=λx hx=>u x (by grind[Op.operands,Call.operands])
    have V:gy D nu s.o w (first++c.args.toList.map s.ev++caps) (fi++c.args.map rho++ca):=by
     refine⟨by simp[q1,q2],λi cc x k1 k2=>?_⟩
     grind
    have fin:∀(W:fQ P g=true)(hcalls:Calls P g (fi++c.args.map rho++ca) w (λe w'=>∃v,e=.returned v∧Below w.heap.size w w'∧RA D nu s.o w' r v)),∃r,K r∧zS P ⟨λv w=>RO D nu s.o w∧RA D nu s.o w r v,λ_ _ _ H q=>⟨q.1.below H,q.2.mono (aH H) (λ_ _ h=>h)⟩⟩ w ((execOp rho oo).run P w):=by
     intro W hcalls
     have A:(execOp rho oo).run P w=.ok (.enter g (fi++c.args.map rho++ca)) w:=by
      grind[execOp,resolve,Deferred.ofValue,Sem.run_bind,Sem.run_pure,Result.andThen_ok,invoke,kZ]
     rw[A];refine⟨r,hk,hcalls.mono ?_⟩;rintro e w' ⟨v,rfl,H,hr⟩;exact⟨v,rfl,⟨h.below H,hr⟩,H⟩
    exact fin hcall.1 (hcall.2 D nu w _ h V)
   grind
  grind
 grind
theorem qn{s:AS}{op:Op}{K:AV->Prop}(h:dM P op s K):∃r,K r∧dM P op s (λu=>u=r):=by
 have one:∀x:Option (Prop×AV),JE x K->∃r,K r∧JE x (λu=>u=r):=λx q=>by
  unfold JE at q
  split at q
  ·rename_i p r;exact⟨r,q.2,q.1,rfl⟩
  grind
 unfold dM at h⊢
 split at h
 ·rename_i c a b
  split at h
  ·rename_i t e
   cases t
   ·exact⟨_,h,rfl⟩
   ·exact⟨_,h,rfl⟩
  grind
 ·rename_i c
  split at h
  ·rename_i f hc;unfold G9 at h⊢
   split at h
   ·rename_i g first caps e
    obtain⟨r,H,A⟩:=h;exact⟨r,A,r,H,rfl⟩
   grind
  grind
 grind
def iV(P:Program)(all:GE):GE->AS->(AS->Prop)->Prop
 | [],_,_=>False
 | [oo],s,Q=>match oo.guard with
  |none=>Ed P oo.op s (λr o'=>Q (s.put oo.dst r o'))
  |some _=>False
 |oo::rest,s,Q=>match oo.guard with
  |none=>dM P oo.op s (λr=>iV P all rest (s.put oo.dst r s.o) Q)
  |some (j,want)=>Aj (nV all s j) want (dM P oo.op s (λr=>iV P all rest (s.put oo.dst r s.o) Q)) (iV P all rest (s.put oo.dst (.v Go.undef) s.o) Q)
@[congr] theorem Vd{all ops:GE}{s s':AS}{Q:AS->Prop}(h:s=s'):iV P all ops s Q=iV P all ops s' Q:=by rw[h]
def jq(D:Nat->Prop)(nu:EQ)(o:AC)(r:AV):Spec:=⟨λv w=>RO D nu o w∧RA D nu o w r v,λ_ _ _ hb hh=>⟨hh.1.below hb,hh.2.mono (aH hb) (λ_ _ h=>h)⟩⟩
theorem wT{rs rs':C5}{i:Nat}{r:AV}(h:rs[i]?=some r):at' ((rs++rs').map (jq D nu o)) i=jq D nu o r:=by
 grind[aek,at',aej]
theorem vP{rs rs':C5}{r:AV}:at' ((rs++r::rs').map (jq D nu o)) rs.length=jq D nu o r:=by
 unfold at'
 grind
structure NY(l:GE)(s:AS)(a:Act)(k:Nat)(sk:AS)(rs:C5)(A:(Nat->Value)->Act):Prop where
 o:sk.o=s.o
 y:sk.y=s.y
 len:rs.length=k
 mh:∀x,(A x).defers=a.defers
 size:∀x,sk.t.length=(A x).tmps.size
 val:∀x(t:Nat)c v,sk.t[t]?=some c->(A x).tmps[t]?=some v->(s.t[t]?=some c∧a.tmps[t]?=some v)∨∃i,i<k∧(∃oi,l[i]?=some oi∧oi.dst=some t)∧rs[i]?=some c∧v=x i
theorem NY.step{l:GE}{s:AS}{a:Act}{k:Nat}{sk:AS}{rs:C5}{A:(Nat->Value)->Act}(h:NY l s a k sk rs A){oo:Oper}(V:l[k]?=some oo)(r:AV) :
  NY l s a (k+1) (sk.put oo.dst r s.o) (rs++[r]) (λx=>(A x).put oo.dst (x k)):=by
 refine⟨rfl,h.y,by simp[h.len],λx=>?_,λx=>?_,λx t c v q u=>?_⟩
 ·have:=h.mh x;cases oo.dst<;>simpa [Act.put]using this
 ·have:=h.size x;cases oo.dst<;>simpa [Act.put,AS.put]using this
 ·have oy:sk.t[t]?=some c->(A x).tmps[t]?=some v->(s.t[t]?=some c∧a.tmps[t]?=some v)∨∃i,i<k+1∧(∃oi,l[i]?=some oi∧oi.dst=some t)∧(rs++[r])[i]?=some c∧v=x i:=by
   intro q u
   rcases h.val x t c v q u with W|⟨i,q1,q2,q3,Y⟩
   ·exact .inl W
   grind
  cases U:oo.dst with
  |none=>rw[U]at q u;exact oy q u
  |some d=>
   rw[U]at q u;simp only[AS.put,Act.put]at q u
   by_cases O:d=t
   ·subst O;have H:=(aek.1 q).1;simp only[List.length_set]at H;rw[aew H]at q;rw[Array.getElem?_setIfInBounds_self_of_lt (by grind)]at u;cases q;cases u;exact .inr ⟨k,zd,⟨oo,V,U⟩,by rw[aeA (by rw[h.len];omega),h.len,Nat.sub_self];rfl,rfl⟩
   grind
end
inductive bg where
 |normal
 |exit (id:Nat)
 |goto (l:Nat)
 |ret
def bg.real:bg->Exit
 | .normal=> .normal
 | .exit id=> .exit id
 | .goto l=> .goto l
 | .ret=> .ret
def iT(n:Nat):C5->C5->Prop
 | [],[]=>True
 |a::l,c::m=>(c=.undef∨(a=c∧c.wf n=true))∧iT n l m
 |_,_=>False
def zU(n:Nat):AC->AC->Prop
 |_,[]=>True
 |x::l,y::m=>(y=none∨(x=y∧∀ob,y=some ob->bE n ob.rows=true))∧zU n l m
 | [],_::_=>False
structure Wk(n0:Nat)(s s':AS):Prop where
 t:iT s'.o.length s.t s'.t
 o:zU s'.o.length s.o s'.o
 n:n0<=s'.o.length
 y:s.y=s'.y
theorem Cb{n:Nat}:∀{l m:C5},iT n l m->l.length=m.length∧∀(i:Nat)c,m[i]?=some c->c=.undef∨(l[i]?=some c∧c.wf n=true)
 | [],[],_=>⟨rfl,λi c h=>by simp at h⟩
 |a::l,b::m,h=>by
  obtain⟨H,A⟩:=Cb h.2;refine⟨by simp[H],λi c u=>?_⟩
  cases i with
  |zero=>simp at u;subst u;exact h.1.imp id (λq=>⟨by simp[q.1],q.2⟩)
  |succ i=>simpa using A i c (by simpa using u)
 | [],_::_,h=>h.elim
 |_::_,[],h=>h.elim
theorem Ca{n:Nat}:∀{l m:AC},zU n l m->m.length<=l.length∧∀(i:Nat)c,m[i]?=some c->c=none∨(l[i]?=some c∧∀ob,c=some ob->bE n ob.rows=true)
 |l,[],_=>⟨zk,λi c h=>by simp at h⟩
 |a::l,b::m,h=>by
  obtain⟨A,H⟩:=Ca h.2;refine⟨by simp[A],λi c u=>?_⟩
  cases i with
  |zero=>simp at u;subst u;exact h.1.imp id (λq=>⟨by simp[q.1],q.2⟩)
  |succ i=>grind
 | [],_::_,h=>h.elim
section
variable {D:Nat->Prop} {nu:EQ} {o:AC} {w:World} {P:Program}
theorem nz{n0:Nat}{s s':AS}(h:Wk n0 s s'):n0<=s'.o.length∧(∀(id:Nat)ob,s'.o[id]?=some (some ob)->s.o[id]?=some (some ob))∧(∀id len,id<s'.o.length->fg s.o id len->fg s'.o id len):=by
 obtain⟨o1,A⟩:=Ca h.o
 have alive:∀(id:Nat)ob,s'.o[id]?=some (some ob)->s.o[id]?=some (some ob):=λid ob u=>by
  grind
 refine⟨h.n,alive,λid len q u=>?_⟩;obtain⟨ob,O,H⟩:=u;have e:s'.o[id]?=some s'.o[id]:=aes q;refine⟨_,e,λx U=>?_⟩
 grind
theorem GS{f:Fr}{n0:Nat}{s s':AS}{a:Act}{D':Nat->Prop}(h:Wk n0 s s')(u:RS f D nu s a w)(hd1:∀b,Fz D nu s.o w b->D' b)(U:∀b,owned nu s'.o b->D' b)(hd3:∀b,w.heap.size<=b->D' b):RS f D' nu s' a w:=by
 obtain⟨t1,t2⟩:=Cb h.t;obtain⟨o1,o2⟩:=Ca h.o;obtain⟨_,al,hd⟩:=nz h
 have alive:∀(id:Nat)ob,s'.o[id]?=some (some ob)->s.o[id]?=some (some ob)∧bE s'.o.length ob.rows=true:=λid ob hh=>by
  grind
 have A:∀b,owned nu s'.o b->owned nu s.o b:=λb⟨id,ob,h1,h2⟩=>⟨id,ob,(alive id ob h1).1,h2⟩;have Y:∀b,Fz D nu s.o w b->Fz D' nu s'.o w b:=λb hb=>⟨hb.1,λH=>hb.2.1 (A b H),hd1 b hb⟩;have hH:∀id len,id<s'.o.length->fg s.o id len->fg s'.o id len∧nu id len=nu id len:=λid len hlt hh=>⟨hd id len hlt hh,rfl⟩
 refine⟨⟨λid ob H=>?_,hd3,λi1 i2 b1 b2 b k1 k2=>u.ro.sep i1 i2 b1 b2 b (alive _ _ k1).1 (alive _ _ k2).1,u.ro.gl.fz (λb hf=>⟨rfl,Y b hf⟩)⟩,⟨?_,λi c x h1 h2=>?_⟩,u.mh⟩
 ·obtain⟨e1,e2⟩:=alive id ob H
  rcases u.ro.obj id ob e1 with e|⟨g,cur,q⟩|⟨g,es,cl,O⟩
  ·exact .inl e
  ·exact .inr (.inl ⟨g,cur,q.ez,U g ⟨id,ob,H,q.b8⟩,q.box,q.vec,q.z,q.row,λi j row c x W V q3=>(q.cell i j row c x W V q3).tr Y hH (cG (lh e2 W) V),q.one⟩)
  ·exact .inr (.inr ⟨g,es,cl,O.tr rfl (λ_=>U g ⟨id,ob,H,O.b8⟩) rfl (λi j row c x W V q=>q.tr Y hH (cG (lh e2 W) V))⟩)
 ·rw[<-t1];exact u.tm.len
 ·rcases t2 i c h1 with rfl|⟨e,f⟩
  ·exact .undef x
  ·exact(u.tm.at' i c x e h2).tr Y hH f
theorem ll{f:Fr}{n0:Nat}{s s':AS}{a:Act}(h:Wk n0 s s')(q:RS f D nu s a w):RS f D nu s' a w:=
 GS h q (λb u=>u.2.2) (λb⟨id,ob,H,A⟩=>q.ro.nP ⟨id,ob,(nz h).2.1 id ob H,A⟩) q.ro.up
theorem Wk.raD{D':Nat->Prop}{n0:Nat}{s s':AS}(h:Wk n0 s s')(V:∀b,Fz D nu s.o w b->D' b){c:AV}{v:Value}(O:RA D nu s.o w c v)(W:c.wf s'.o.length=true):RA D' nu s'.o w c v:=by
 obtain⟨_,h2,Y⟩:=nz h;exact O.tr (λb u=>⟨u.1,λ⟨id,ob,H,A⟩=>u.2.1 ⟨id,ob,h2 id ob H,A⟩,V b u⟩) (λid len q U=>⟨Y id len q U,rfl⟩) W
theorem Wk.ra{n0:Nat}{s s':AS}(h:Wk n0 s s'){c:AV}{v:Value}(q:RA D nu s.o w c v)(u:c.wf s'.o.length=true):RA D nu s'.o w c v:=h.raD (λb A=>A.2.2) q u
theorem Wk.yP{n0:Nat}{s s':AS}{Z:Nat->Prop}(h:Wk n0 s s'):JP Z nu s.o w nu s'.o w:=by
 obtain⟨Y,V,U⟩:=nz h;exact⟨rfl,rfl,rfl,aed _,λid len u O=>⟨U id len u O,rfl⟩,λb W q _=>⟨rfl,λ⟨id,ob,H,A⟩=>q ⟨id,ob,V id ob H,A⟩⟩⟩
theorem Wk.mono{n0:Nat}{s s':AS}(h:Wk n0 s s'){u:EQ}{o0:AC}{w0:World}(hn:o0.length<=n0)(q:cf u o0 w0 nu s.o w):cf u o0 w0 nu s'.o w:=by
 obtain⟨h1,h2,h3⟩:=nz h
 refine⟨q.os,q.tape,q.output,q.size,λid len U=>?_,λb hb A=>?_⟩
 ·obtain⟨O,H⟩:=q.wH id len U;have Y:=j9 U
  grind
 ·obtain⟨O,H⟩:=q.keep b hb A;exact⟨O,λ⟨id,ob,W,V⟩=>H ⟨id,ob,h2 id ob W,V⟩⟩
inductive Gs(s:AS):AS->Prop
 |refl:Gs s s
 |step (i:Nat) (T:TypeId) (z:Nat) (s1:AS):Gs s s1->s1.t[i]?=some (.v (.slice none 0 0))->0<z->Gs s ⟨s1.t.set i (.vec s1.o.length 0),s1.o++[some ⟨T,z,true,[]⟩],s1.y⟩
theorem TG{f:Fr}{s s':AS}{a:Act}(h:Gs s s')(hs:RS f D nu s a w):∃nu',cf nu s.o w nu' s'.o w∧s'.y=s.y∧RS f D nu' s' a w:=by
 induction h with
 |refl=>exact⟨nu,.refl _ _ _,rfl,hs⟩
 |step i T z s1 _ hi hz ih=>
  obtain⟨q,V,O,u⟩:=ih
  have W:∀b,dW (Value.slice none 0 0)=some b->w.heap.size<=b:=λb e=>by cases e
  have Y:=iP (nu:=q) (o:=s1.o) (ob:=⟨T,z,true,[]⟩) (Below.refl w.heap.size w) W;refine⟨iB q s1.o.length (.slice none 0 0),V.trans Y,O,⟨oD u.ro (Below.refl _ _) W (.inl ⟨rfl,rfl,rfl⟩),?_,u.mh⟩⟩;have U:=u.tm.mono Y (λ_ _ h=>h);refine⟨by simpa using U.len,λj c x H h2=>?_⟩
  by_cases A:i=j
  ·subst A;rw[aew (aek.1 hi).1]at H;cases H
   have:=(U.at' i _ x hi h2).di
   subst this
   have:=RA.vec (D:=D) (nu:=iB q s1.o.length (.slice none 0 0)) (o:=s1.o++[some ⟨T,z,true,[]⟩]) (w:=w) s1.o.length 0 ⟨_,List.getElem?_concat_length,λx hx=>Nat.zero_le _⟩ (by rw[bX];rfl)
   grind[bX]
  ·rw[List.getElem?_set_ne A]at H;exact U.at' j c x H h2
def G5(c:AV)(A B:Prop):Prop:=match c with
 | .v (.bool t)=>cn t A B
 |_=>False
@[congr] theorem VL{c q:AV}{A B:Prop}(h:c=q):G5 c A B=G5 q A B:=by rw[h]
theorem Lc(t:Bool)(A B:Prop):G5 (.v (.bool t)) A B=cn t A B:=rfl
def JD(n0:Nat)(step:AS->(bg->AS->Prop)->Prop)(s:AS)(Q:bg->AS->Prop):Prop:=
 ∃I:Nat->AS->Prop,(∃m s1 s2,Gs s s1∧Wk n0 s1 s2∧I m s2) ∧
  ∀m s1,I m s1->step s1 (λe s2=>match e with
   | .normal=>∃m' s3,Wk n0 s2 s3∧I m' s3∧m'<m
   |e=>Q e s2)
@[congr] theorem Ve{n0:Nat}{step:AS->(bg->AS->Prop)->Prop}{s s':AS}{Q:bg->AS->Prop}(h:s=s'):JD n0 step s Q=JD n0 step s' Q:=by rw[h]
def Ha(P:Program)(n0:Nat)(c:Code)(s:AS)(Q:bg->AS->Prop):Prop:=
 ∀(f:Fr)(m:WM P)(D:Nat->Prop)(nu:EQ)(a:Act)(w:World),(∀l,f.r=some l->m.fix l)->m.n0<=n0->m.M D nu s.o f.Z s.y w->RS f D nu s a w->P.follows .mixedOrders=true->∀R:Exit->Act->World->Prop,(∀a w, ¬R .outgrown a w) ->
  (∀e D' Z' s' a' w' nu',m.M D' nu' s'.o Z' s'.y w'->RS (f.wz Z') D' nu' s' a' w'->Q e s'->R e.real a' w')->c.wpIn (WF f.r) 9 P R a w
def cD(P:Program)(n0:Nat):Code->AS->(bg->AS->Prop)->Prop
 | .skip,s,Q=>Q .normal s
 | .region i ops d,s,Q=>if d then False∨Ha P n0 (.region i ops d) s Q else jT P ops.toList ops.toList s (Q .normal)∨Ha P n0 (.region i ops d) s Q
 | .seq a b,s,Q=>cD P n0 a s (λe s'=>match e with
  | .normal=>cD P n0 b s' Q
  |e=>Q e s')∨Ha P n0 (.seq a b) s Q
 | .cond c a b,s,Q=>G5 (s.ev c) (cD P n0 a s Q) (cD P n0 b s Q)
 | .block id c,s,Q=>cD P n0 c s (λe s'=>match e with
  | .exit i=>if i=id then Q .normal s' else Q (.exit i) s'
  |e=>Q e s')
 | .loop c,s,Q=>JD n0 (cD P n0 c) s Q
 | .rangeFunc g ps x y,s,Q=>Ha P n0 (.rangeFunc g ps x y) s Q
 | .exit id,s,Q=>Q (.exit id) s
 | .scope c,s,Q=>cD P n0 c s (λe s'=>match e with
  | .goto _=>False
  |e=>Q e s')
 | .label _,s,Q=>Q .normal s
 | .goto l,s,Q=>Q (.goto l) s
 | .ret,s,Q=>Q .ret s
 | .refuse _,_,_=>False
@[congr] theorem XB{n0:Nat}{c:Code}{s s':AS}{Q:bg->AS->Prop}(h:s=s'):cD P n0 c s Q=cD P n0 c s' Q:=by rw[h]
def bY:Code->Bool
 | .region _ ops d=>dO ops
 | .seq a b=>bY a&&bY b
 | .cond _ a b=>bY a&&bY b
 | .block _ c=>bY c
 | .loop c=>bY c
 | .scope c=>bY c
 | .rangeFunc .. =>true
 | .refuse _=>false
 |_=>true
theorem RS.drew{f:Fr}{s:AS}{a:Act}(h:RS f D nu s a w):RS f D nu s a w.drew:=⟨h.ro.below (dE w),h.tm.mono (aH (dE w)) (λ_ _ h=>h),h.mh.mono h.ro (aH (dE w))⟩
theorem EH{ops:Array Oper}(h:dO ops=true):∀oo,oo∈ops.toList->∀c,oo.op ≠ .defer c:=λoo q c e=>by
 grind[dO,Array.all_eq_true_iff_forall_mem]
theorem gK(hmx:P.follows .mixedOrders=true){f:Fr}(m:WM P)(hZr:∀l,f.r=some l->m.fix l){n0:Nat}(hn:m.n0<=n0):∀(c:Code),bY c=true->∀(s:AS)(a:Act)(w:World)(D:Nat->Prop)(nu:EQ)(Z:Nat->Prop)(Q:bg->AS->Prop)(R:Exit->Act->World->Prop),
  (∀a w, ¬R .outgrown a w)->m.M D nu s.o Z s.y w->RS (f.wz Z) D nu s a w->cD P n0 c s Q->(∀e D' Z' s' V w' nu',m.M D' nu' s'.o Z' s'.y w'->RS (f.wz Z') D' nu' s' V w'->Q e s'->R e.real V w')->c.wpIn (WF f.r) 9 P R a w:=by
 intro c
 induction c with
 |skip=>exactλ_ s a w D nu Z Q R _ O H q u=>wpIn_skip (u .normal D Z s a w nu O H q)
 |region id ops d=>
  intro A s a w D nu Z Q R hO O H q u
  cases d
  ·simp only[cD,Bool.false_eq_true,if_false]at q
   rcases q with q|q
   case inr=>exact q (f.wz Z) m D nu a w hZr hn O H hmx R hO u
   exact wpIn_region_list (by
    have:=mK (f:=f.wz Z) m hZr (all:=ops.toList) ops.toList s a w D nu (EH A) O H q (λD' s' V w' nu' Y W U=>u .normal D' Z s' V w' nu' Y W U)
    simpa [Fr.wz]using this)
  ·exact q.elim False.elim λq=>q (f.wz Z) m D nu a w hZr hn O H hmx R hO u
 |seq x y ihx ihy=>
  intro A s a w D nu Z Q R hO O H q u
  rcases q with q|q
  case inr=>exact q (f.wz Z) m D nu a w hZr hn O H hmx R hO u
  simp only[bY,Bool.and_eq_true]at A;refine wpIn_seq (ihx A.1 s a w D nu Z _ _ (λa w h=>hO a w h) O H q (λe D' Z' s' V w' nu' Y W U=>?_))
  cases e with
  |normal=>exact ihy A.2 s' V w' D' nu' Z' Q R hO Y W U u
  |exit i=>exact u (.exit i) D' Z' s' V w' nu' Y W U
  |goto i=>exact u (.goto i) D' Z' s' V w' nu' Y W U
  |ret=>exact u .ret D' Z' s' V w' nu' Y W U
 |cond c x y ihx ihy=>
  intro A s a w D nu Z Q R hO O H q u;simp only[bY,Bool.and_eq_true]at A;simp only[cD,G5]at q
  split at q
  ·rename_i t e;have hc:=H.ev c;rw[e]at hc;refine wpIn_cond hc.di ?_
   cases t
   ·exact ihy A.2 s a w D nu Z Q R hO O H q u
   ·exact ihx A.1 s a w D nu Z Q R hO O H q u
  grind
 |block id c ih=>
  intro A s a w D nu Z Q R hO O H q u;refine wpIn_block (ih A s a w D nu Z _ _ (λa w h=>hO a w h) O H q (λe D' Z' s' V w' nu' Y W U=>?_))
  cases e with
  |normal=>exact u .normal D' Z' s' V w' nu' Y W U
  |exit i=>
   simp only[bg.real,Exit.inBlock];simp only at U
   split
   ·rename_i hi;rw[if_pos hi]at U;exact u .normal D' Z' s' V w' nu' Y W U
   ·rename_i hi;rw[if_neg hi]at U;exact u (.exit i) D' Z' s' V w' nu' Y W U
  |goto i=>exact u (.goto i) D' Z' s' V w' nu' Y W U
  |ret=>exact u .ret D' Z' s' V w' nu' Y W U
 |loop c ih=>
  intro A s a w D nu Z Q R hO O H q u;obtain⟨I,⟨k,s1,s2,hg,hw,hI⟩,hround⟩:=q;obtain⟨nu1,hm1,hy1,hs1⟩:=TG hg H;have hs2:=ll hw hs1
  have U5:∀{D nu Z s3 s4 a w},Wk n0 s3 s4->m.M D nu s3.o Z s3.y w->RS (f.wz Z) D nu s3 a w->m.M D nu s4.o Z s4.y w:=λ{D nu Z s3 s4 a w}hk O H=>by
   rw[<-hk.y];exact m.step O H.ro hk.yP (ll hk H).ro (λc v hr hc=>hk.ra hr hc) (λ_ h=> .inl h) (λ_ h=> .inl h) (λb hb=>⟨((m.so O).1 b hb).1,((m.so O).1 b hb).2,.inl hb⟩) (aee hn hk.n)
  have hM1:m.M D nu1 s1.o Z s1.y w:=by rw[hy1];exact m.own O H.ro hm1 hs1.ro
  refine Ah (λk a w=>∃s D nu Z,I k s∧m.M D nu s.o Z s.y w∧RS (f.wz Z) D nu s a w) (m:=k) ⟨s2,D,nu1,Z,hI,U5 hw hM1 hs1,hs2⟩ ?_;rintro k a w ⟨s,D,nu,Z,hI,O,H⟩;refine ih A s a w D nu Z _ _ (λa w h=>hO a w h) O H (hround k s hI) (λe D' Z' s' V w' nu' Y W U=>?_)
  cases e with
  |normal=>
   obtain⟨m',s3,k1,k2,k3⟩:=U;exact⟨m',⟨s3,D',nu',Z',k2,U5 k1 Y W,ll k1 W⟩,k3⟩
  |exit i=>exact u (.exit i) D' Z' s' V w' nu' Y W U
  |goto i=>exact u (.goto i) D' Z' s' V w' nu' Y W U
  |ret=>exact u .ret D' Z' s' V w' nu' Y W U
 |rangeFunc g ps x y _ _=>exactλ_ s a w D nu Z Q R hO O H q u=>q (f.wz Z) m D nu a w hZr hn O H hmx R hO u
 |exit id=>exactλ_ s a w D nu Z Q R _ O H q u=>wpIn_exit (u (.exit id) D Z s a w nu O H q)
 |scope c ih=>
  intro A s a w D nu Z Q R hO O H q u;refine JB (ih A s a w D nu Z _ _ (λa w h=>hO a w h) O H q (λe D' Z' s' V w' nu' Y W U=>?_))
  cases e with
  |normal=>exact u .normal D' Z' s' V w' nu' Y W U
  |exit i=>exact u (.exit i) D' Z' s' V w' nu' Y W U
  |goto i=>exact U.elim
  |ret=>exact u .ret D' Z' s' V w' nu' Y W U
 |label l=>exactλ_ s a w D nu Z Q R _ O H q u=>wpIn_label (u .normal D Z s a w nu O H q)
 |goto l=>exactλ_ s a w D nu Z Q R _ O H q u=>wpIn_goto (u (.goto l) D Z s a w nu O H q)
 |ret=>exactλ_ s a w D nu Z Q R _ O H q u=>wpIn_ret (u .ret D Z s a w nu O H q)
 |refuse why=>intro A;cases A
end
section
variable {D:Nat->Prop} {nu:EQ} {o:AC} {w:World} {P:Program}
def pC(P:Program)(s:AS):List ResultVar->Option (Prop×C5)
 | []=>some (True,[])
 | .tmp t::l=>match pC P s l with
  |some (p,vs)=>some (p,s.ev (.tmp t)::vs)
  |none=>none
 | .cell a T::l=>match En P T s.o (s.ev (.tmp a)),pC P s l with
  |some (q,v),some (p,vs)=>some (q∧p,v::vs)
  |_,_=>none
def qO(x:Option (Prop×C5))(o:AC)(Q:AV->AC->Prop):Prop:=match x with
 |some (p,[v])=>p∧Q v o
 |some (p,vs)=>p∧Q (.ck vs) o
 |none=>False
@[congr] theorem VN{x y:Option (Prop×C5)}{o o':AC}{Q:AV->AC->Prop}(h:x=y)(k:o=o'):qO x o Q=qO y o' Q:=by rw[h,k]
theorem NN(p:Prop)(v:AV)(Q:AV->AC->Prop):qO (some (p,[v])) o Q=(p∧Q v o):=rfl
theorem Lh(p:Prop)(Q:AV->AC->Prop):qO (some (p,[])) o Q=(p∧Q (.ck []) o):=rfl
theorem NO(p:Prop)(v u:AV)(l:C5)(Q:AV->AC->Prop):qO (some (p,v::u::l)) o Q=(p∧Q (.ck (v::u::l)) o):=rfl
def BY(P:Program)(rs:List ResultVar)(Q:AV->AC->Prop)(e:bg)(s:AS):Prop:=match e with
 | .ret=>qO (pC P s rs) s.o Q
 | .normal=>qO (pC P s rs) s.o Q
 |_=>False
@[congr] theorem VM{rs:List ResultVar}{Q:AV->AC->Prop}{e q:bg}{s s':AS}(h:e=q)(k:s=s'):BY P rs Q e s=BY P rs Q q s':=by rw[h,k]
theorem NM(rs:List ResultVar)(Q:AV->AC->Prop)(s:AS):BY P rs Q .ret s=qO (pC P s rs) s.o Q:=rfl
theorem Ee(rs:List ResultVar)(Q:AV->AC->Prop)(s:AS):BY P rs Q .normal s=qO (pC P s rs) s.o Q:=rfl
def pZ(tmps:Array Value):ResultVar->Sem Value
 | .tmp t=>pure (tmps.getD t Go.undef)
 | .cell a t=>do loadVar t (<-asAddr (tmps.getD a Go.undef))
theorem zn{f:Fr}{s:AS}{a:Act}(h:RS f D nu s a w):∀(l:List ResultVar){p:Prop}{vs:C5},pC P s l=some (p,vs)->p->∃xs:Id,(l.mapM (pZ a.tmps)).run P w=.ok xs w∧vs.length=xs.length∧∀(i:Nat)c x,vs[i]?=some c->xs[i]?=some x->RA D nu s.o w c x
 | [],p,vs,H,V=>by
  cases H
  simp_all
 |rv::l,p,vs,H,V=>by
  have step:∀(v:AV)(q:Prop)(A:C5),(∃x,(pZ a.tmps rv).run P w=.ok x w∧RA D nu s.o w v x)->pC P s l=some (q,A)->q->vs=v::A->∃xs:Id,((rv::l).mapM (pZ a.tmps)).run P w=.ok xs w∧vs.length=xs.length∧∀(i:Nat)c x,vs[i]?=some c->xs[i]?=some x->RA D nu s.o w c x:=by
   rintro v q A ⟨x,u,O⟩ hl U rfl;obtain⟨xs,h1,h2,h3⟩:=zn h l hl U;refine⟨x::xs,by simp[List.mapM_cons,u,h1],by simp[h2],λi c y Y W=>?_⟩
   cases i with
   |zero=>simp at Y W;subst Y;subst W;exact O
   |succ i=>exact h3 i c y (by simpa using Y) (by simpa using W)
  cases rv with
  |tmp t=>
   simp only[pC]at H
   split at H
   ·rename_i q A e;cases H;exact step _ _ _ ⟨a.eval (.tmp t),rfl,h.ev (.tmp t)⟩ e V rfl
   ·cases H
  |cell ad T=>
   simp only[pC]at H
   split at H
   ·rename_i q v q' A e1 e2;cases H;obtain⟨x,u,O⟩:=qz (P:=P) h.ro (h.ev (.tmp ad)) e1 V.1;refine step _ _ _ ⟨x,?_,O⟩ e2 V.2 rfl;simp only[Act.eval]at u;simp only[pZ]
    cases U:a.tmps.getD ad Go.undef with
    |pointer pa=>
     cases pa with
     |none=>rw[U]at u;simp[Instr.loadAt,Instr.sureAddr]at u
     |some pa=>
      rw[U]at u;simpa [Instr.loadAt,Instr.sureAddr,asAddr]using u
    |_=>rw[U]at u;simp[Instr.loadAt,Instr.sureAddr]at u
   ·cases H
theorem Ga{f:Fr}{fn:Func}{s:AS}{a:Act}{Q:AV->AC->Prop}(h:RS f D nu s a w)(q:qO (pC P s fn.results.toList) s.o Q):∃v r,(results fn a.tmps).run P w=.ok v w∧RA D nu s.o w r v∧Q r s.o:=by
 have A:∀xs:Id,(fn.results.toList.mapM (pZ a.tmps)).run P w=.ok xs w->(results fn a.tmps).run P w=.ok (if h:xs.toArray.size=1 then xs.toArray[0]else .tuple xs.toArray) w:=by
  intro xs hx
  have e:fn.results.mapM (pZ a.tmps)=(List.toArray <$> fn.results.toList.mapM (pZ a.tmps)):=by
   rw[Array.mapM_eq_mapM_toList]
  have:results fn a.tmps=(do let vs <-fn.results.mapM (pZ a.tmps);pure (if h:vs.size=1 then vs[0]else .tuple vs)):=by
   unfold results
   congr 1
  simp_all
 unfold qO at q
 split at q
 ·rename_i p v e;obtain⟨xs,V,H,u⟩:=zn h _ e q.1;obtain⟨x,rfl⟩:=aeK.1 H.symm;exact⟨x,v,by grind,u 0 v x rfl rfl,q.2⟩
 ·rename_i p vs U e;obtain⟨xs,V,H,u⟩:=zn h _ e q.1
  have hl: ¬xs.toArray.size=1:=λY=>by
   grind[aeK]
  refine⟨.tuple xs.toArray,.ck vs,by grind,.ck _ _ zd (λi c x O W=>u i c x O (by grind)),q.2⟩
 grind
structure zT(B:Nat)(w w':World):Prop where
 os:w'.os=w.os
 tape:w'.tape=w.tape
 output:w'.output=w.output
 size:w'.heap.size=w.heap.size
 low:∀b,b<B->w'.heap[b]?=w.heap[b]?
 cells:∀(b:Nat)ob,w.heap[b]?=some ob->yx ob=false->w'.heap[b]?=some ob
theorem zT.refl(B:Nat)(w:World):zT B w w:=⟨rfl,rfl,rfl,rfl,λ_ _=>rfl,λ_ _ h _=>h⟩
theorem zT.cell{B:Nat}{w w':World}(h:zT B w w'){b o:Nat}{v:Value}(u:w.cell? ⟨b,o,none⟩=some v):w'.cell? ⟨b,o,none⟩=some v:=by
 unfold World.cell? at u⊢
 cases q:w.heap[b]? with
 |none=>grind
 |some ob=>
  cases ob with
  |cells C T fz=>rw[h.cells b _ q rfl];grind
  |_=>grind
theorem zT.ra{B:Nat}{w w':World}(h:zT B w w'){a:AV}{x:Value}(hr:RA D nu o w a x):RA D nu o w' a x:=by
 have V:∀b,Fz D nu o w b->Fz D nu o w' b:=λb hf=>⟨by rw[h.size];exact hf.1,hf.2.1,hf.2.2⟩
 induction hr with
 |undef x=>exact .undef x
 |v x=>exact .v x
 |agg cs xs q _ U ih=>exact .agg cs xs q ih U
 |ck cs xs q _ ih=>exact .ck cs xs q ih
 |b6 z=>exact .b6 z
 |cp z a=>exact .cp z a
 |aA z rows len b off cap f q u U O h5 h6 _ h8 ih=>exact .aA z rows len b off cap f q u U (λhne=>V b (O hne)) h5 (λi j row c hr H=>h.cell (h6 i j row c hr H)) ih h8
 |vp cs b off f q u _ O ih=>exact .vp cs b off f (V b q) (λj c H=>h.cell (u j c H)) ih O
 |ptr id len z row off b q u=>exact .ptr id len z row off b q u
 |vec id len q u=>exact .vec id len q u
 |fn g first caps fi ca q u _ _ Y W=>exact .fn g first caps fi ca q u Y W
 |full a x q _ ih=>exact .full a x q ih
 |ju p a x S h0 q H u _ ih=>
  have hsame:∀b,S b->w'.heap[b]?=w.heap[b]? :=λb A=>by
   obtain⟨C,T,k,e⟩:=H b A;rw[e];exact h.cells b _ e rfl
  exact .ju p a x S h0 (λb A=>V b (q b A)) (λb A=>by grind) (λw2 hw=>u w2 (λb A=>(hw b A).trans (hsame b A))) ih
 |mp rows b es cl q u U O h5 h6 _ ih=>exact .mp rows b es cl (V b q) (h.cells b _ u rfl) U O h5 h6 ih
theorem zT.ro{B:Nat}{w w':World}(h:zT B w w')(A:RO D nu o w):RO D nu o w':=
 ⟨λid ob hid=>by
  rcases A.obj id ob hid with e|⟨g,cur,q⟩|⟨g,es,cl,u⟩
  ·exact .inl e
  ·exact .inr (.inl ⟨g,cur,h.cells g _ q.ez rfl,q.o4,q.box,q.vec,q.z,q.row,λi j row c x U O H=>h.ra (q.cell i j row c x U O H),q.one⟩)
  ·exact .inr (.inr ⟨g,es,cl,u.tr ((h.cells g _ u.ez rfl).trans u.ez.symm) (λh=>h) rfl (λi j row c x _ _ A=>h.ra A)⟩),λb q=>A.up b (by rw[<-h.size];exact q),A.sep,λg T cs V=>by
  obtain⟨⟨t,h1⟩,Y,W⟩:=A.gl g T cs V
  exact⟨⟨t,h.cells g _ h1 rfl⟩,Y,W⟩⟩
theorem oh{fn:Func}{tmps:Array Value}{R:Ending->World->Prop}{B:Nat}:∀(rs:Do)(w:World),rs.Nodup->(∀x,x∈rs->B<=x∧w.heap[x]?=some (.deferred (some []))) ->
  (∀w',zT B w w'->(∀b,b∉rs->w'.heap[b]?=w.heap[b]?)->∃v,(results fn tmps).run P w' = .ok v w'∧R (.returned v) w')->LeavesInM (WF none) 9 P fn tmps R (rs.map IV) .returning w
 | [],w,_,_,h=>h w (.refl B w) (λ_ _=>rfl)
 |x::rs,w,hn,V,h=>by
  obtain⟨h1,U⟩:=V x List.mem_cons_self;have Y:=(List.nodup_cons.1 hn).1;refine⟨zk,.inl ⟨x,w.putObj x (.deferred none),rfl,run_takeDeferred U,?_⟩⟩;have A:zT B w (w.putObj x (.deferred none)):=⟨rfl,rfl,rfl,zk,λb u=>World.putObj_heap_other zd,λb ob u H=>(World.putObj_heap_other (λe=>by rw[e,U]at u;cases u;cases H)).trans u⟩;refine oh rs _ (List.nodup_cons.1 hn).2 (λy W=>?_) (λw' q O=>h w' ⟨q.os.trans A.os,q.tape.trans A.tape,q.output.trans A.output,q.size.trans A.size,λb u=>(q.low b u).trans (A.low b u),λb ob u H=>q.cells b ob (A.cells b ob u H) H⟩ (λb u=>(O b (λh=>u (aeX _ h))).trans (World.putObj_heap_other (λe=>u (by grind)))))
  grind[aeX,World.putObj_heap_other]
def QC(P:Program)(n0:Nat)(D0:Nat->Prop)(nu0:EQ)(o0:AC)(w0:World)(hn:o0.length<=n0):WM P where
 n0:=n0
 fix:=λ_=>False
 M:=λD nu o Z y w=>(y=.no∧(∀b,D b->D0 b)∧(∀b,Z b->b<w.heap.size∧D0 b∧ ¬D b)∧n0<=o.length∧∀b,w0.heap.size<=b->D0 b)∧cf nu0 o0 w0 nu o w∧∀b,b<w0.heap.size-> ¬owned nu0 o0 b-> ¬Z b
 step:=λ{D D' nu o Z Z' y w nu' o' w'}h hro hm hro' _ hD _ hZ hn'=>by
  obtain⟨⟨h1,h2,h3,h4,hup⟩,h5,h6⟩:=h
  refine⟨⟨h1,λb hb=>?_,λb hb=>⟨(hZ b hb).1,?_,(hZ b hb).2.1⟩,hn',hup⟩,⟨hm.os.trans h5.os,hm.tape.trans h5.tape,hm.output.trans h5.output,aee h5.size hm.size,λid len hh=>?_,λb hb hno=>?_⟩,λb hb hno hz=>?_⟩
  ·grind
  ·rcases(hZ b hb).2.2 with q|q|q
   ·grind
   ·exact h2 b (hro.nP q)
   ·exact hup b (aee h5.size q)
  ·obtain⟨q1,q2⟩:=h5.wH id len hh;have hlt:=j9 hh;obtain⟨q3,q4⟩:=hm.wH id len zd q1
   grind
  ·obtain⟨q1,q2⟩:=h5.keep b hb hno;obtain⟨q3,q4⟩:=hm.keep b (Nat.lt_of_lt_of_le hb h5.size) q2 (h6 b hb hno)
   grind
  ·rcases(hZ b hz).2.2 with q|q|q
   ·grind
   ·exact(h5.keep b hb hno).2 q
   ·have:=h5.size;omega
 so:=λh=>⟨λb hb=>⟨(h.1.2.2.1 b hb).1,(h.1.2.2.1 b hb).2.2⟩,h.1.2.2.2.1,λb hb=>hb.elim⟩
 yield:=λh _ _ _=>by cases h.1.1
theorem RA.wider{D D':Nat->Prop}(U:∀b,D' b->D b){a:AV}{x:Value}(h:RA D' nu o w a x):RA D nu o w a x:=by
 induction h with
 |undef x=>exact .undef x
 |v x=>exact .v x
 |agg cs xs q _ O ih=>exact .agg cs xs q ih O
 |ck cs xs q _ ih=>exact .ck cs xs q ih
 |b6 z=>exact .b6 z
 |cp z a=>exact .cp z a
 |aA z rows len b off cap f q u O H h5 h6 _ h8 ih=>exact .aA z rows len b off cap f q u O (λA=>⟨(H A).1,(H A).2.1,U b (H A).2.2⟩) h5 h6 ih h8
 |vp cs b off f q u _ H ih=>exact .vp cs b off f ⟨q.1,q.2.1,U b q.2.2⟩ u ih H
 |ptr id len z row off b q u=>exact .ptr id len z row off b q u
 |vec id len q u=>exact .vec id len q u
 |fn g first caps fi ca q u _ _ W V=>exact .fn g first caps fi ca q u W V
 |full a x q _ ih=>exact .full a x q ih
 |ju p a x S h0 q hc u _ ih=>exact .ju p a x S h0 (λb Y=>⟨(q b Y).1,(q b Y).2.1,U b (q b Y).2.2⟩) hc u ih
 |mp rows b es cl q u O H h5 h6 _ ih=>exact .mp rows b es cl ⟨q.1,q.2.1,U b q.2.2⟩ u O H h5 h6 ih
theorem RO.wider{D D':Nat->Prop}(h:RO D' nu o w)(u:∀b,D' b->D b):RO D nu o w:=
 ⟨λid ob hid=>by
  rcases h.obj id ob hid with e|⟨g,cur,q⟩|⟨g,es,cl,A⟩
  ·exact .inl e
  ·exact .inr (.inl ⟨g,cur,q.ez,u g q.o4,q.box,q.vec,q.z,q.row,λi j row c x U O H=>(q.cell i j row c x U O H).wider u,q.one⟩)
  ·exact .inr (.inr ⟨g,es,cl,A.tr rfl (u g) rfl (λi j row c x _ _ V=>V.wider u)⟩),λb q=>u b (h.up b q),h.sep,λg T cs W=>by
  obtain⟨⟨t,h1⟩,h2,Y⟩:=h.gl g T cs W
  grind⟩
theorem EV{f:Fr}{D:Nat->Prop}{nu:EQ}{o:AC}{w:World}{args:C5}{vargs:Array Value}{n:Nat}{y:kB}(Y:f.r=none)(W:f.B<=w.heap.size)(u:RO D nu o w)(U:gy D nu o w args vargs) :
  RS f D nu ⟨args++List.replicate (n-args.length) .undef,o,y⟩ {tmps:=vargs++Array.replicate (n-vargs.size) Go.undef,defers:=[]} w:=by
 have hl:=U.len;refine⟨u,⟨by simp[hl],λi cc x q O=>?_⟩,⟨W,⟨[],List.nodup_nil,rfl,λx V=>(by cases V)⟩,λl hl=>by grind⟩⟩;simp only at q O
 rcases Nat.lt_or_ge i args.length with A|H
 ·rw[aej A]at q;rw[Array.getElem?_append_left zd]at O;exact U.at' i cc x q O
 ·rw[aeA H,List.getElem?_replicate]at q
  split at q
  ·cases q;exact .undef x
  ·cases q
theorem ft.enter{f:FuncId}{fn:Func}{c:Code}{args:C5}{Q:AV->AC->Prop}(hf:P.funcs[f]?=some fn)(A:fn.body=some c)(hc:fQ P f=true)(hok:bY c=true)(hmx:P.follows .mixedOrders=true)
  (h:cD P o.length c ⟨args++List.replicate (fn.ntmps-args.length) .undef,o,.no⟩ (BY P fn.results.toList Q)):ft P f args o Q:=by
 refine⟨hc,λD nu w vargs V ha=>xV (n:=9) (callsIn_of_wp_marks hf A trivial ?_ rfl)⟩;have hs:RS ⟨w.heap.size,none,λ_=>False⟩ D nu ⟨args++List.replicate (fn.ntmps-args.length) .undef,o,.no⟩ {tmps:=vargs++Array.replicate (fn.ntmps-vargs.size) Go.undef,defers:=[]} w:=EV rfl (aed _) V ha
 have fin:∀(D' Z':Nat->Prop)(s':AS)(u:Act)(w':World)(nu':EQ),(QC P o.length D nu o w (aed _)).M D' nu' s'.o Z' s'.y w'->RS ⟨w.heap.size,none,Z'⟩ D' nu' s' u w'->qO (pC P s' fn.results.toList) s'.o Q->LeavesInM (WF none) 9 P fn u.tmps (N0 D nu o w Q) u.defers .returning w':=λD' Z' s' u w' nu' h1 H U=>by
  obtain⟨rs,k1,k2,k3⟩:=H.mh.marks;rw[k2];refine oh (B:=w.heap.size) rs w' k1 (λx Y=>⟨(k3 x Y).1,(k3 x Y).2.2⟩) (λw2 q _=>?_);obtain⟨⟨_,hD,_,_⟩,O,_⟩:=h1;have hF:∀b,Fz D' nu' s'.o w2 b->Fz D nu' s'.o w2 b:=λb A=>⟨A.1,A.2.1,hD b A.2.2⟩;have h2':RS ⟨w.heap.size,none,Z'⟩ D' nu' s' {tmps:=u.tmps,defers:=[]} w2:=⟨q.ro H.ro,⟨H.tm.len,λi c x q1 q2=>q.ra (H.tm.at' i c x q1 q2)⟩,⟨by rw[q.size];exact H.mh.base,⟨[],List.nodup_nil,rfl,λx Y=>(by cases Y)⟩,λl hl=>by cases hl⟩⟩;obtain⟨v,r,q1,q2,q3⟩:=Ga h2' U;exact⟨v,q1,v,nu',s'.o,r,rfl,⟨q.os.trans O.os,q.tape.trans O.tape,q.output.trans O.output,by rw[q.size];exact O.size,O.wH,λb A W=>⟨(q.low b A).trans (O.keep b A W).1,(O.keep b A W).2⟩⟩,RO.wider h2'.ro hD,q2.wider hD,q3⟩
 refine wpIn_mono (gK (P:=P) hmx (f:=⟨w.heap.size,none,λ_=>False⟩) (QC P o.length D nu o w (aed _)) (λl hl=>by cases hl) (aed _) c hok _ _ w D nu (λ_=>False) _ (λ(e:Exit)u w'=>e ≠ .outgrown∧bodyPostM (WF none) 9 P fn (N0 D nu o w Q) e u w') (λa w hh=>hh.1 rfl) ⟨⟨rfl,λ_ h=>h,λ_ h=>h.elim,aed _,V.up⟩,.refl nu o w,λ_ _ _ h=>h⟩ hs h (λe D' Z' s' u w' nu' h1 H U=>?_)) (λe a w hh=>hh.2)
 cases e with
 |ret=>exact⟨by simp[bg.real],fin D' Z' s' u w' nu' h1 H U⟩
 |normal=>exact⟨by simp[bg.real],fin D' Z' s' u w' nu' h1 H U⟩
 |exit id=>exact U.elim
 |goto l=>exact U.elim
def iE(o:AC)(r0 r:AV):Prop:=∃n p,jD o n r0=some (p,r)∧p
theorem Yn(x y:Value):iE o (.v x) (.v y)=(x=y):=by
 apply propext
 constructor
 ·rintro⟨n,p,q,_⟩
  cases n with
  |zero=>grind[jD]
  |succ n=>grind[jD,aep,aeq,AV.v.injEq]
 ·rintro rfl;exact⟨1,_,rfl,rfl⟩
theorem iE.of{q r:AV}(n:Nat){p:Prop}(h:jD o n q=some (p,r))(u:p):iE o q r:=⟨n,p,h,u⟩
theorem iE.vec{id len:Nat}{ob:aa}(h:o[id]?=some (some ob))(u:ob.fc=true)(hl:ob.rows.length=len)(q:bE 0 ob.rows=true):iE o (.vec id len) (.aA ob.z ob.rows len):=iE.of (p:=ob.fc=true∧ob.rows.length=len∧bE 0 ob.rows=true) 1 (by grind[jD]) ⟨u,hl,q⟩
theorem iE.aA{z len:Nat}{rows:List C5}(q:bE 0 rows=true):iE o (.aA z rows len) (.aA z rows len):=⟨1,_,rfl,q⟩
theorem aj.enter{f:FuncId}{fn:Func}{c:Code}{args:C5}{r:AV}(hf:P.funcs[f]?=some fn)(W:fn.body=some c)(Y:fQ P f=true)(O:bY c=true)(U:P.follows .mixedOrders=true)
  (ha:aQ 0 args=true)(hr:r.wf 0=true)(h:cD P 0 c ⟨args++List.replicate (fn.ntmps-args.length) .undef,[],.no⟩ (BY P fn.results.toList (λu o=>iE o u r))):aj P f args r:=by
 obtain⟨_,h2⟩:=ft.enter (o:=[]) hf W Y O U h;refine⟨⟨ha,hr⟩,Y,λD nu w vargs A H=>(h2 D nu w vargs A H).mono ?_⟩;rintro e w' ⟨v,nu',o',u,rfl,q,hro',hra',n,p,hz,hp⟩;have V:cf nu [] w nu' [] w':=⟨q.os,q.tape,q.output,q.size,λid len hh=>by obtain⟨x,k,_⟩:=hh;simp at k,λb W ho=>⟨(q.keep b W ho).1,br _ _⟩⟩;exact⟨v,nu',[],r,rfl,V,(.nil _ _ _ hro'.up (hro'.gl.nil (λ_ _ h=>h))),(pJ hro' n).1 u v p r hz hp hra',rfl,rfl⟩
end
section
variable {P:Program} {all:GE} {n0:Nat} {s:AS} {Q:bg->AS->Prop}
theorem abY(t:C5)(o:AC)(y:kB)(k:Nat):(AS.mk t o y).ev (.tmp k)=t.getD k .undef:=rfl
theorem YY(s:AS)(v:Value):s.ev (.const v)=.v v:=rfl
theorem aaK(s:AS)(f:FuncId):s.ev (.func f)=.fn f [] []:=rfl
theorem Zs(t:C5)(o o':AC)(y:kB)(d:Nat)(r:AV):(AS.mk t o y).put (some d) r o'=⟨t.set d r,o',y⟩:=rfl
theorem Zr(t:C5)(o o':AC)(y:kB)(r:AV):(AS.mk t o y).put none r o'=⟨t,o',y⟩:=rfl
theorem Vm(dst:Option Tmp)(op:Op)(ty:TypeId)(pos:String)(aft:Array Edge)(s:AS)(K:AS->Prop) :
  vJ P all ⟨dst,op,ty,pos,aft,none⟩ s K=AY P op dst s K:=rfl
theorem Vl(dst:Option Tmp)(op:Op)(ty:TypeId)(pos:String)(aft:Array Edge)(j:Nat)(want:Bool)(s:AS)(K:AS->Prop) :
  vJ P all ⟨dst,op,ty,pos,aft,some (j,want)⟩ s K=Aj (nV all s j) want (AY P op dst s K) (K (s.put dst (.v Go.undef) s.o)):=rfl
attribute [go_sem] abY YY aaK Zs Zr Vm Vl
attribute [go_sem] AY VY Yq Hb
def fw(P:Program)(all:GE)(oo:Oper)(s:AS)(K:AS->Prop):Prop:=match oo.guard with
 |none=>dM P oo.op s (λr=>K (s.put oo.dst r s.o))
 |some (j,want)=>Aj (nV all s j) want (dM P oo.op s (λr=>K (s.put oo.dst r s.o))) (K (s.put oo.dst (.v Go.undef) s.o))
theorem SS(dst:Option Tmp)(op:Op)(ty:TypeId)(pos:String)(aft:Array Edge)(s:AS)(K:AS->Prop) :
  fw P all ⟨dst,op,ty,pos,aft,none⟩ s K=dM P op s (λr=>K (s.put dst r s.o)):=rfl
theorem SR(dst:Option Tmp)(op:Op)(ty:TypeId)(pos:String)(aft:Array Edge)(j:Nat)(want:Bool)(s:AS)(K:AS->Prop) :
  fw P all ⟨dst,op,ty,pos,aft,some (j,want)⟩ s K=Aj (nV all s j) want (dM P op s (λr=>K (s.put dst r s.o))) (K (s.put dst (.v Go.undef) s.o)):=rfl
attribute [go_sem] SS SR
theorem Oj{Q:AS->Prop}(h:Q s):jT P all [] s Q:=h
theorem Wb{oo:Oper}{rest:GE}{Q:AS->Prop}(h:∀K:AS->Prop,(∀s',jT P all rest s' Q->K s')->vJ P all oo s K):jT P all (oo::rest) s Q:=h _ (λ_ h=>h)
theorem Hu{dst:Option Tmp}{op:Op}{ty:TypeId}{pos:String}{aft:Array Edge}{Q:AS->Prop}(h:∀K:AS->Prop,(∀s',Q s'->K s')->Ed P op s (λr o'=>K (s.put dst r o'))):iV P all [⟨dst,op,ty,pos,aft,none⟩] s Q:=h _ (λ_ h=>h)
theorem SE{oo q:Oper}{rest:GE}{Q:AS->Prop}(h:∀K:AS->Prop,(∀s',iV P all (q::rest) s' Q->K s')->fw P all oo s K):iV P all (oo::q::rest) s Q:=by
 have:=h _ (λ_ h=>h)
 grind[fw,iV]
def px(K:AS->Prop)(Q:bg->AS->Prop):bg->AS->Prop
 | .normal,s=>K s
 |e,s=>Q e s
def BX(id:Nat)(Q:bg->AS->Prop):bg->AS->Prop
 | .exit i,s=>if i=id then Q .normal s else Q (.exit i) s
 |e,s=>Q e s
def Eg(Q:bg->AS->Prop):bg->AS->Prop
 | .goto _,_=>False
 |e,s=>Q e s
theorem Ey{K:AS->Prop}(h:K s):px K Q .normal s:=h
theorem Ly{K:AS->Prop}{i:Nat}(h:Q (.exit i) s):px K Q (.exit i) s:=h
theorem Om{K:AS->Prop}(h:Q .ret s):px K Q .ret s:=h
theorem Lz{K:AS->Prop}{i:Nat}(h:Q (.goto i) s):px K Q (.goto i) s:=h
theorem Es{i:Nat}(h:Q .normal s):BX i Q .normal s:=h
theorem Oe{i:Nat}(h:Q .ret s):BX i Q .ret s:=h
theorem Lp{i j:Nat}(h:Q (.goto j) s):BX i Q (.goto j) s:=h
theorem Ew(h:Q .normal s):Eg Q .normal s:=h
theorem Ol(h:Q .ret s):Eg Q .ret s:=h
theorem Lw{i:Nat}(h:Q (.exit i) s):Eg Q (.exit i) s:=h
theorem HY{id:Nat}{l:GE}(h:jT P l l s (Q .normal)):cD P n0 (.region id l.toArray false) s Q:= .inl h
theorem Ow(h:Q .normal s):cD P n0 .skip s Q:=h
theorem S4{a b:Code}(h:∀K:AS->Prop,(∀s',cD P n0 b s' Q->K s')->cD P n0 a s (px K Q)):cD P n0 (.seq a b) s Q:=by
 have:=h _ (λ_ h=>h)
 simp only[cD];refine .inl ?_;exact(congrArg (cD P n0 a s) (by funext e s';cases e<;>rfl)).mpr this
theorem Oq{c:Operand}{a b:Code}(h:G5 (s.ev c) (cD P n0 a s Q) (cD P n0 b s Q)):cD P n0 (.cond c a b) s Q:=h
theorem LC{id:Nat}{c:Code}(h:cD P n0 c s (BX id Q)):cD P n0 (.block id c) s Q:=by
 simp only[cD];exact(congrArg (cD P n0 c s) (by funext e s';cases e<;>rfl)).mpr h
theorem LJ{c:Code}(h:cD P n0 c s (Eg Q)):cD P n0 (.scope c) s Q:=by
 simp only[cD];exact(congrArg (cD P n0 c s) (by funext e s';cases e<;>rfl)).mpr h
theorem Ou{id:Nat}(h:Q (.exit id) s):cD P n0 (.exit id) s Q:=h
theorem S3(h:Q .ret s):cD P n0 .ret s Q:=h
theorem LG{l:Nat}(h:Q .normal s):cD P n0 (.label l) s Q:=h
theorem Ov{l:Nat}(h:Q (.goto l) s):cD P n0 (.goto l) s Q:=h
attribute [go_sem] Sn Sm NX NV Lc Ef Ak NQ NP VU Sk NN Lh NO NM Ee Yn
attribute [go_sem] AV.st bytesOf Cd JQ Hl Ed dM SK wS zV Hv ux xE Hn JR En Ck pR Ar nC Ce nE Cg Sz SA pD SC lE kv aUn El ru sy iG As JU rC NC JT Ob wQ rD sx
 AV.cells? Gn nV aa.hl pC AV.wf aQ bE yz A5 Lo xH Eo Ci Ch sD uz mA dH
theorem YI(d:TypeDesc)(k:Value)(x:AV):nF d k x []=some [[.v k,x]]:=rfl
theorem YH(d:TypeDesc)(k:Value):o9 d k []=some none:=rfl
theorem XI(ks:Nm)(k:C5)(x:AV):mc ks k x []=some [[.agg k,x]]:=rfl
theorem XH(ks:Nm)(k:C5):kN ks k []=some none:=rfl
attribute [go_sem] YI YH XI XH
@[go_sem] theorem aaE(b:Bool)(A B:Prop):cn (!b) A B=cn b B A:=by cases b<;>rfl
def aw{ι:Type}(n0:Nat)(S:ι->AS)(mu:ι->Nat)(ok:ι->Prop)(m:Nat)(s2:AS):Prop:=∃m' s3,Wk n0 s2 s3∧(∃j,ok j∧mu j=m'∧s3=S j)∧m'<m
theorem aw.mk{ι:Type}{S:ι->AS}{mu:ι->Nat}{ok:ι->Prop}{m:Nat}{s2:AS}(j:ι)(A:ok j)(u:mu j<m)(q:Wk n0 s2 (S j)):aw n0 S mu ok m s2:=⟨mu j,S j,q,⟨j,A,rfl,rfl⟩,u⟩
theorem mL{ι:Type}{c:Code}(S:ι->AS)(mu:ι->Nat)(ok:ι->Prop)(i0:ι)(s1:AS)(A:Gs s s1)(u:Wk n0 s1 (S i0))(q:ok i0)
  (h:∀i,ok i->∀K:AS->Prop,(∀s2,aw n0 S mu ok (mu i) s2->K s2)->cD P n0 c (S i) (px K Q)):cD P n0 (.loop c) s Q:=by
 show JD n0 (cD P n0 c) s Q;refine⟨λm s'=>∃i,ok i∧mu i=m∧s'=S i,⟨mu i0,s1,S i0,A,u,i0,q,rfl,rfl⟩,?_⟩;rintro m s' ⟨i,hi,rfl,rfl⟩
 have:=h i hi _ (λ_ h=>h)
 exact(congrArg (cD P n0 c (S i)) (by funext e s2;cases e<;>rfl)).mpr this
def bN(n:Nat)(l:O1):C5:=l.foldl (λt p=>t.set p.1 p.2) (List.replicate n .undef)
theorem b7{ι:Type}{c:Code}{t:C5}{o:AC}{y:kB}(live:ι->O1)(ob:ι->AC)(mu:ι->Nat)(ok:ι->Prop)(i0:ι)(q:ok i0)(u:Wk n0 ⟨t,o,y⟩ ⟨bN t.length (live i0),ob i0,y⟩)
  (h:∀i,ok i->∀K:AS->Prop,(∀s2,aw n0 (λi=>⟨bN t.length (live i),ob i,y⟩) mu ok (mu i) s2->K s2)->cD P n0 c ⟨bN t.length (live i),ob i,y⟩ (px K Q)):cD P n0 (.loop c) ⟨t,o,y⟩ Q:=
 mL (λi=>⟨bN t.length (live i),ob i,y⟩) mu ok i0 _ .refl u q h
theorem ab{s s':AS}(H:iT s'.o.length s.t s'.t)(A:zU s'.o.length s.o s'.o)(u:n0<=s'.o.length)(q:s.y=s'.y:=by rfl):Wk n0 s s':=⟨H,A,u,q⟩
theorem ae{k:Nat}(h:k<9223372036854775807):IntKind.i64.wrap ((k:Int)+1)=((k+1:Nat):Int):=by
 grind[IntKind.wrap_i64]
theorem bS{n:Int}(u: -9223372036854775808<=n)(q:n<=9223372036854775807):IntKind.i64.wrap n=n:=by
 grind[IntKind.wrap_i64]
end
attribute [go_sem] List.getD_cons_zero List.getD_cons_succ List.set_cons_zero List.set_cons_succ List.getElem?_cons_zero List.getElem?_cons_succ List.length_cons List.length_nil List.length_map Option.map_some Option.map_none List.drop_zero List.drop_succ_cons List.take_succ_cons List.take_zero List.map_cons List.map_nil List.cons_append List.nil_append List.append_nil List.append_assoc true_and and_true Int.toNat_natCast if_true if_false BEq.rfl Bool.true_beq Bool.false_beq beq_true beq_false Bool.not_true Bool.not_false Bool.and_true Bool.true_and Bool.and_false Bool.false_and aeY aed List.length_replicate Nat.zero_mul aep implies_true Bool.false_eq_true List.length_append decide_true decide_false beq_self_eq_true bne_self_eq_false Bool.not_not and_self Nat.lt_irrefl List.replicate_succ List.replicate_zero Nat.sub_zero
end Go.Proofs.YtlhhccmopfamhaaGreatDoor
