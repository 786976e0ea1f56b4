/- texts of one claim, one behind the other. -/
import Derived.Test.YtlhhccmopfamhaaGreatDoorXFen
import Derived.Laws.CopyRow
import Derived.Laws.BytesArg
set_option linter.unusedSimpArgs false
set_option linter.unusedVariables false
set_option maxRecDepth 100000
set_option maxHeartbeats 16000000
open Array renaming getElem?_eq_getElem -> Vh, getElem?_extract -> VI, getElem?_eq_some_iff -> U2, getElem?_modify -> VY, getElem?_map -> VZ, mem_of_getElem? -> V0, getElem?_append_left -> VE, getElem?_append_right -> V1
open Bool renaming and_eq_true -> VS
open List renaming getElem?_eq_none -> Vn, length_map -> VW, getD_eq_getElem?_getD -> VX, getElem?_eq_getElem -> Vi, getElem?_eq_some_iff -> U4, getElem?_map -> Vl, eq_nil_of_length_eq_zero -> VF, getElem?_set_self -> Vq, getElem?_set_ne -> Vp, mem_of_getElem? -> VD, getElem?_toArray -> Vk, getElem?_append_left -> U5, getElem?_append_right -> Vy, mem_cons_of_mem -> V2, getElem?_drop -> Vg, append_assoc -> Vv, singleton_append -> V3, length_eq_one_iff -> VJ, length_cons -> U9, mem_cons_self -> V4, nodup_cons -> V5, getElem?_of_mem -> Vr
open Nat renaming lt_or_ge -> U6, le_refl -> UZ, zero_add -> VR, le_trans -> U0
open Option renaming map_some -> VB, map_eq_some_iff -> VM
open Option.some renaming injEq -> Ve, inj -> UY
open Prod.mk renaming injEq -> Vf
namespace Go.Proofs.YtlhhccmopfamhaaGreatDoor
open Go.RowKit
section
section
variable {D:Nat->Prop} {nu:Nat->Nat->Value} {o:List (Option aa)} {w:World} {P:Program}
def kH (op:BinOp) (k:IntKind) (a b:Int):Option (Prop×AV):=match op with
 | .shl=>some (0<=b, .v (.int k (k.wrap (a * 2 ^ min b.toNat k.bits))))
 | .shr=>some (0<=b, .v (.int k (a.fdiv (2 ^ min b.toNat k.bits))))
 | _=>none
def GK (k:IntKind) (a b:Int):Int:=k.wrap (BitVec.ofInt k.bits a &&& BitVec.ofInt k.bits b).toNat
def QI (k:IntKind) (a b:Int):Int:=k.wrap (BitVec.ofInt k.bits a ||| BitVec.ofInt k.bits b).toNat
def OY (k:IntKind) (a b:Int):Int:=k.wrap (BitVec.ofInt k.bits a ^^^ BitVec.ofInt k.bits b).toNat
def qk (k:IntKind) (a b:Int):Int:=k.wrap (BitVec.ofInt k.bits a &&& ~~~ BitVec.ofInt k.bits b).toNat
def Jp (op:BinOp) (k:IntKind) (a b:Int):Option (Prop×AV):=match op with
 | .add=>some (True, .v (.int k (k.wrap (a+b))))
 | .sub=>some (True, .v (.int k (k.wrap (a - b))))
 | .mul=>some (True, .v (.int k (k.wrap (a * b))))
 | .quo=>some (b≠0, .v (.int k (k.wrap (a.tdiv b))))
 | .rem=>some (b≠0, .v (.int k (a.tmod b)))
 | .and=>some (True, .v (.int k (GK k a b)))
 | .or=>some (True, .v (.int k (QI k a b)))
 | .xor=>some (True, .v (.int k (OY k a b)))
 | .andNot=>some (True, .v (.int k (qk k a b)))
 | .eql=>some (True, .v (.bool (a==b)))
 | .neq=>some (True, .v (.bool (a !=b)))
 | .lss=>some (True, .v (.bool (decide (a<b))))
 | .leq=>some (True, .v (.bool (decide (a<=b))))
 | .gtr=>some (True, .v (.bool (decide (b<a))))
 | .geq=>some (True, .v (.bool (decide (b<=a))))
 | .shl=>kH .shl k a b
 | .shr=>kH .shr k a b
def Jr (op:BinOp) (a b:ByteArray):Option (Prop×AV):=match op with
 | .add=>some (a.size+b.size<=4611686018427387904, .v (.string (a++b)))
 | .eql=>some (True, .v (.bool (a.toList==b.toList)))
 | .neq=>some (True, .v (.bool (!(a.toList==b.toList))))
 | .lss=>some (True, .v (.bool (Op.bytesLess a.toList b.toList)))
 | .leq=>some (True, .v (.bool (Op.bytesLess a.toList b.toList||a.toList==b.toList)))
 | .gtr=>some (True, .v (.bool (!(Op.bytesLess a.toList b.toList||a.toList==b.toList))))
 | .geq=>some (True, .v (.bool (!(Op.bytesLess a.toList b.toList))))
 | _=>none
def rI (P:Program) (T:TypeId):Bool:=match P.underlying T with
 | some (.pointer _)=>true
 | _=>false
def tY (P:Program) (T:TypeId):Bool:=match P.underlying T with
 | some (.slice _)=>true
 | _=>false
def isFun (P:Program) (T:TypeId):Bool:=match P.underlying T with
 | some (.func _ _ _)=>true
 | _=>false
def Jo (P:Program) (op:BinOp) (T:TypeId):AV->AV->Option (Prop×AV)
 | .v (.int k a), .v (.int k' b)=>match op with
  | .shl=>kH .shl k a b
  | .shr=>kH .shr k a b
  | _=>if k=k' then Jp op k a b else none
 | .v (.string a), .v (.string b)=>Jr op a b
 | .v (.bool a), .v (.bool b)=>match P.underlying T,op with
  | some .bool, .eql=>some (True, .v (.bool (a==b)))
  | some .bool, .neq=>some (True, .v (.bool (!(a==b))))
  | _,_=>none
 | .agg cs, .agg ds=>match iD P T,op with
  | some ks, .eql=>(ib ks cs ds).map fun r=>(True, .v (.bool r))
  | some ks, .neq=>(ib ks cs ds).map fun r=>(True, .v (.bool (!r)))
  | _,_=>none
 | .v (.pointer none), .v (.pointer none)=>if rI P T then match op with
  | .eql=>some (True, .v (.bool true))
  | .neq=>some (True, .v (.bool false))
  | _=>none else none
 | .vp _, .v (.pointer none)=>if rI P T then match op with
  | .eql=>some (True, .v (.bool false))
  | .neq=>some (True, .v (.bool true))
  | _=>none else none
 | .ptr _ _ _ _ _, .v (.pointer none)=>if rI P T then match op with
  | .eql=>some (True, .v (.bool false))
  | .neq=>some (True, .v (.bool true))
  | _=>none else none
 | .aH _ rows _, .v (.slice none 0 0)=>if tY P T then match op with
  | .eql=>some (rows≠[], .v (.bool false))
  | .neq=>some (rows≠[], .v (.bool true))
  | _=>none else none
 | .v (.slice none 0 0), .v (.slice none 0 0)=>if tY P T then match op with
  | .eql=>some (True, .v (.bool true))
  | .neq=>some (True, .v (.bool false))
  | _=>none else none
 | .fn _ _ _, .v .nilFunc=>if isFun P T then match op with
  | .eql=>some (True, .v (.bool false))
  | .neq=>some (True, .v (.bool true))
  | _=>none else none
 | _,_=>none
theorem JM {op:BinOp} {T:TypeId} {k:IntKind} {a b:Int} {p:Prop} {r:AV} (h:Jp op k a b=some (p,r)) (hp:p): ∃v,(binOp op T (.int k a) (.int k b)).run P w = .ok v w∧r = .v v:=by
 cases op<;>simp only [Jp,kH,GK,QI,OY,qk,Ve,Vf] at h<;>obtain ⟨rfl,rfl⟩:=h<;>refine ⟨_, ?_,rfl⟩ <;>
  simp [binOp,Op.intArith,Op.intDiv,Op.intBits,Op.intCmp,Op.shift]<;>first|(intro h;exact absurd h hp)|omega
theorem IC {op:BinOp} {T:TypeId} {a b:ByteArray} {p:Prop} {r:AV} (h:Jr op a b=some (p,r)) (hp:p): ∃v,(binOp op T (.string a) (.string b)).run P w = .ok v w∧r = .v v:=by
 cases op<;>simp only [Jr,Ve,Vf,reduceCtorEq] at h<;>obtain ⟨rfl,rfl⟩:=h<;>refine ⟨_, ?_,rfl⟩ <;>
  simp [binOp,Op.stringOp]
 omega
theorem kS {op:BinOp} {T:TypeId} {X Y:Operand} {x y:Value} (h: ∀xs ys, ¬(x = .agg xs∧y = .agg ys)) (h2:x ≠ .nilIface):(eqGuard op T X Y x y).run P w = .ok () w:=by
 unfold eqGuard
 cases op<;>first
  | rfl
  | (cases x<;>first
    | rfl
    | exact absurd rfl h2
    | (cases y<;>first
      | rfl
      | exact absurd ⟨rfl,rfl⟩ (h _ _)))
theorem xM (d:Nat) {T e:TypeId} (hu:P.underlying T=some (.pointer e)) (ad:Addr):(Op.equalIn (d+1) T (.pointer (some ad)) (.pointer none)).run P w = .ok false w:=by
 simp [Op.equalIn,run_underlying hu]
theorem xL (d:Nat) {T e:TypeId} (hu:P.underlying T=some (.pointer e)):(Op.equalIn (d+1) T (.pointer none) (.pointer none)).run P w = .ok true w:=by
 simp [Op.equalIn,run_underlying hu]
theorem rm {T:TypeId} {x y:Value} {b:Bool} (hb:binOp .eql T x y=(do pure (.bool (<-Op.equal T x y)))) (h:(Op.equalIn 10000 T x y).run P w = .ok b w):(binOp .eql T x y).run P w = .ok (.bool b) w:=by
 rw [hb];simp only [Op.equal,Op.maxDepth,Sem.run_bind,h,Result.andThen_ok,Sem.run_pure]
theorem rU {T:TypeId} {x y:Value} {b:Bool} (hb:binOp .neq T x y=(do pure (.bool (!(<-Op.equal T x y))))) (h:(Op.equalIn 10000 T x y).run P w = .ok b w):(binOp .neq T x y).run P w = .ok (.bool (!b)) w:=by
 rw [hb];simp only [Op.equal,Op.maxDepth,Sem.run_bind,h,Result.andThen_ok,Sem.run_pure]
theorem ur {a:AV} {x:Value} (hr:RA D nu o w a x) (h:(∃cs,a = .vp cs)∨ ∃i l z r f,a = .ptr i l z r f): ∃ad,x = .pointer (some ad):=by
 rcases h with ⟨cs,rfl⟩|⟨i,l,z,r,f,rfl⟩
 ·cases hr;exact ⟨_,rfl⟩
 ·cases hr;exact ⟨_,rfl⟩
theorem qs {T:TypeId} {ad:Addr} (hT:rI P T=true):(binOp .eql T (.pointer (some ad)) (.pointer none)).run P w = .ok (.bool false) w∧(binOp .neq T (.pointer (some ad)) (.pointer none)).run P w = .ok (.bool true) w:=by
 unfold rI at hT
 split at hT
 ·rename_i e hu;exact ⟨rm rfl (xM 9999 hu ad),rU rfl (xM 9999 hu ad)⟩
 ·cases hT
theorem B5 (d:Nat) {T e:TypeId} (hu:P.underlying T=some (.slice e)) (a:Option Addr) (n c:Nat):(Op.equalIn (d+1) T (.slice a n c) (.slice none 0 0)).run P w = .ok a.isNone w:=by
 cases a<;>simp [Op.equalIn,run_underlying hu]
theorem mT {T:TypeId} {a:Option Addr} {n c:Nat} (hT:tY P T=true):(binOp .eql T (.slice a n c) (.slice none 0 0)).run P w = .ok (.bool a.isNone) w∧(binOp .neq T (.slice a n c) (.slice none 0 0)).run P w = .ok (.bool (!a.isNone)) w:=by
 unfold tY at hT
 split at hT
 ·rename_i e hu;exact ⟨rm rfl (B5 9999 hu a n c),rU rfl (B5 9999 hu a n c)⟩
 ·cases hT
theorem B4 (d:Nat) {T:TypeId} {ps rs:Array TypeId} {v:Bool} (hu:P.underlying T=some (.func ps rs v)) (fn:Fn) (a b:Array Value):(Op.equalIn (d+1) T (.func fn a b) .nilFunc).run P w = .ok false w:=by
 simp [Op.equalIn,run_underlying hu]
theorem Gz {T:TypeId} {fn:Fn} {a b:Array Value} (hT:isFun P T=true):(binOp .eql T (.func fn a b) .nilFunc).run P w = .ok (.bool false) w∧(binOp .neq T (.func fn a b) .nilFunc).run P w = .ok (.bool true) w:=by
 unfold isFun at hT
 split at hT
 ·rename_i e hu;exact ⟨rm rfl (B4 9999 hu fn a b),rU rfl (B4 9999 hu fn a b)⟩
 ·cases hT
theorem F6 {op:BinOp} {T:TypeId} {a b:AV} {x y:Value} (hx:RA D nu o w a x) (hy:RA D nu o w b y) {p:Prop} {r:AV} (h:Jo P op T a b=some (p,r)) (hp:p) (X Y:Operand) :
  ∃v,(binOp op T x y).run P w = .ok v w∧RA D nu o w r v∧(eqGuard op T X Y x y).run P w = .ok () w:=by
 have fin: ∀(rr:AV),(∃v,(binOp op T x y).run P w = .ok v w∧rr = .v v)->rr=r->((∀xs ys, ¬(x = .agg xs∧y = .agg ys))∧x ≠ .nilIface)-> ∃v,(binOp op T x y).run P w = .ok v w∧RA D nu o w r v∧(eqGuard op T X Y x y).run P w = .ok () w:=by
  rintro rr ⟨v,h1,h2⟩ h3 ⟨h4,h5⟩;subst h3;subst h2;exact ⟨v,h1, .v v,kS h4 h5⟩
 unfold Jo at h
 split at h
 ·obtain rfl:=hx.b5;obtain rfl:=hy.b5;refine fin r ?_ rfl ⟨fun xs ys e=>(by cases e.1),fun e=>by cases e⟩
  split at h
  ·simp only [kH,Ve,Vf] at h;obtain ⟨rfl,rfl⟩:=h;exact ⟨_,by simp [binOp,Op.shift];omega,rfl⟩
  ·simp only [kH,Ve,Vf] at h;obtain ⟨rfl,rfl⟩:=h;exact ⟨_,by simp [binOp,Op.shift];omega,rfl⟩
  ·split at h
   ·rename_i hk;subst hk;exact JM h hp
   ·cases h
 ·obtain rfl:=hx.b5;obtain rfl:=hy.b5;exact fin r (IC h hp) rfl ⟨fun xs ys e=>(by cases e.1),fun e=>by cases e⟩
 ·obtain rfl:=hx.b5;obtain rfl:=hy.b5;refine fin r ?_ rfl ⟨fun xs ys e=>(by cases e.1),fun e=>by cases e⟩
  split at h
  ·rename_i hu;simp only [Ve,Vf] at h;obtain ⟨rfl,rfl⟩:=h;exact ⟨_,rm rfl (run_equalIn_bool' w 9999 T _ _ hu),rfl⟩
  ·rename_i hu;simp only [Ve,Vf] at h;obtain ⟨rfl,rfl⟩:=h;exact ⟨_,rU rfl (run_equalIn_bool' w 9999 T _ _ hu),rfl⟩
  ·cases h
 ·rename_i cs ds;have key:=fun ks rr h1 h2=>kF (P:=P) (T:=T) (ks:=ks) (rr:=rr) h1 h2 hx hy
  split at h
  ·rename_i ks ht
   cases he:ib ks cs ds with
   | none=>rw [he] at h;cases h
   | some rr=>
    rw [he] at h;simp only [VB,Ve,Vf] at h;obtain ⟨rfl,rfl⟩:=h;obtain ⟨xs,ys,rfl,rfl,hg,hq⟩:=key ks rr ht he;exact ⟨.bool rr,by rw [run_eql_struct,hq];rfl, .v _,run_eqGuard_agg w _ T X Y xs ys hg⟩
  ·rename_i ks ht
   cases he:ib ks cs ds with
   | none=>rw [he] at h;cases h
   | some rr=>
    rw [he] at h;simp only [VB,Ve,Vf] at h;obtain ⟨rfl,rfl⟩:=h;obtain ⟨xs,ys,rfl,rfl,hg,hq⟩:=key ks rr ht he;exact ⟨.bool (!rr),by rw [run_neq_struct,hq];rfl, .v _,run_eqGuard_agg w _ T X Y xs ys hg⟩
  ·cases h
 ·obtain rfl:=hx.b5;obtain rfl:=hy.b5;refine fin r ?_ rfl ⟨fun xs ys e=>(by cases e.1),fun e=>by cases e⟩
  split at h
  ·rename_i hT;unfold rI at hT
   split at hT
   ·rename_i e hu
    split at h
    ·cases h;exact ⟨_,rm rfl (xL 9999 hu),rfl⟩
    ·cases h;exact ⟨_,rU rfl (xL 9999 hu),rfl⟩
    ·cases h
   ·cases hT
  ·cases h
 ·obtain rfl:=hy.b5;obtain ⟨ad,rfl⟩:=ur hx (.inl ⟨_,rfl⟩);refine fin r ?_ rfl ⟨fun xs ys e=>(by cases e.1),fun e=>by cases e⟩
  split at h
  ·rename_i hT
   split at h
   ·cases h;exact ⟨_,(qs hT).1,rfl⟩
   ·cases h;exact ⟨_,(qs hT).2,rfl⟩
   ·cases h
  ·cases h
 ·obtain rfl:=hy.b5;obtain ⟨ad,rfl⟩:=ur hx (.inr ⟨_,_,_,_,_,rfl⟩);refine fin r ?_ rfl ⟨fun xs ys e=>(by cases e.1),fun e=>by cases e⟩
  split at h
  ·rename_i hT
   split at h
   ·cases h;exact ⟨_,(qs hT).1,rfl⟩
   ·cases h;exact ⟨_,(qs hT).2,rfl⟩
   ·cases h
  ·cases h
 ·rename_i z rows len;obtain rfl:=hy.b5
  split at h
  ·rename_i hT
   have hne:rows≠[]-> ∃ad n c,x = .slice (some ad) n c:=fun hne=>by
    cases hx with
    | br=>exact absurd rfl hne
    | bz=>exact absurd rfl hne
    | aH _ _ _ b off cap f=>exact ⟨_,_,_,rfl⟩
   split at h
   ·cases h;obtain ⟨ad,n,c,rfl⟩:=hne hp;exact fin _ ⟨_,(mT hT).1,rfl⟩ rfl ⟨fun xs ys e=>(by cases e.1),fun e=>by cases e⟩
   ·cases h;obtain ⟨ad,n,c,rfl⟩:=hne hp;exact fin _ ⟨_,(mT hT).2,rfl⟩ rfl ⟨fun xs ys e=>(by cases e.1),fun e=>by cases e⟩
   ·cases h
  ·cases h
 ·obtain rfl:=hx.b5;obtain rfl:=hy.b5;refine fin r ?_ rfl ⟨fun xs ys e=>(by cases e.1),fun e=>by cases e⟩
  split at h
  ·rename_i hT
   split at h
   ·cases h;exact ⟨_,(mT hT).1,rfl⟩
   ·cases h;exact ⟨_,(mT hT).2,rfl⟩
   ·cases h
  ·cases h
 ·obtain rfl:=hy.b5
  split at h
  ·rename_i hT
   cases hx with
   | fn g first caps fi ca=>
    split at h
    ·cases h;exact fin _ ⟨_,(Gz hT).1,rfl⟩ rfl ⟨fun xs ys e=>(by cases e.1),fun e=>by cases e⟩
    ·cases h;exact fin _ ⟨_,(Gz hT).2,rfl⟩ rfl ⟨fun xs ys e=>(by cases e.1),fun e=>by cases e⟩
    ·cases h
  ·cases h
 ·cases h
def QE (op:UnOp):AV->Option AV
 | .v (.bool b)=>match op with
  | .not=>some (.v (.bool (!b)))
  | _=>none
 | .v (.int k n)=>match op with
  | .neg=>some (.v (.int k (k.wrap (0 - n))))
  | _=>none
 | _=>none
theorem Lm {op:UnOp} {a:AV} {x:Value} (hx:RA D nu o w a x) {r:AV} (h:QE op a=some r): ∃v,(Op.unary op x).run P w = .ok v w∧RA D nu o w r v:=by
 unfold QE at h
 split at h
 ·obtain rfl:=hx.b5
  split at h
  ·cases h;exact ⟨_,rfl, .v _⟩
  ·cases h
 ·obtain rfl:=hx.b5
  split at h
  ·cases h;exact ⟨_,rfl, .v _⟩
  ·cases h
 ·cases h
def w9 (P:Program) (src dst:TypeId):AV->Option AV
 | .v (.int _ n)=>match P.underlying src,P.underlying dst with
  | some _,some (.int k)=>some (.v (.int k (k.wrap n)))
  | _,_=>none
 | .v (.string s)=>match P.underlying src,P.underlying dst with
  | some .string,some .string=>some (.v (.string s))
  | _,_=>none
 | _=>none
theorem tM {src dst:TypeId} {a:AV} {x:Value} (hx:RA D nu o w a x) {r:AV} (h:w9 P src dst a=some r): ∃v,(convert src dst x).run P w = .ok v w∧RA D nu o w r v:=by
 unfold w9 at h
 split at h
 ·obtain rfl:=hx.b5
  split at h
  ·rename_i d k h1 h2;cases h;exact ⟨_,by simp [convert,run_underlying h1,run_underlying h2,Conv.intToInt], .v _⟩
  ·cases h
 ·obtain rfl:=hx.b5
  split at h
  ·rename_i h1 h2;cases h;exact ⟨_,by simp [convert,run_underlying h1,run_underlying h2], .v _⟩
  ·cases h
 ·cases h
def bytesOf:List (List AV)->Option (List Int)
 | []=>some []
 | [.v (.int .u8 n)] :: l=>match bytesOf l with
  | some ns=>some (n :: ns)
  | none=>none
 | _=>none
theorem np: ∀ {rows:List (List AV)} {ns:List Int},bytesOf rows=some ns->rows=ns.map (fun n=>[AV.v (.int .u8 n)])
 | [],ns,h=>by cases h;rfl
 | row :: l,ns,h=>by
  unfold bytesOf at h
  split at h
  ·rename_i e;cases e
  ·rename_i n l' e;cases e
   split at h
   ·rename_i ns' e';cases h;rw [np e'];rfl
   ·cases h
  ·cases h
def u5 (P:Program) (o:List (Option aa)) (src dst:TypeId) (a:AV):Option (Prop×AV):=match P.underlying src,P.underlying dst with
 | some (.slice e),some .string=>match P.underlying e,mv o 1 a with
  | some (.int .u8),some (p,rows)=>match bytesOf rows with
   | some ns=>some (p, .v (.string ⟨(ns.map (fun n=>UInt8.ofNat n.toNat)).toArray⟩))
   | none=>none
  | _,_=>none
 | _,_=>none
theorem sg: ∀(ns:List Int) (r:ByteArray),ns.foldl (fun r n=>r.push (UInt8.ofNat n.toNat)) r=⟨r.data++(ns.map (fun n=>UInt8.ofNat n.toNat)).toArray⟩
 | [],r=>by simp
 | n :: ns,r=>by
  simp only [List.foldl_cons];rw [sg ns];simp [ByteArray.push]
theorem Af {src dst:TypeId} (h:RO D nu o w) {a:AV} {x:Value} (hx:RA D nu o w a x) {p:Prop} {r:AV} (ha:u5 P o src dst a=some (p,r)) (hp:p): ∃v,(convert src dst x).run P w = .ok v w∧RA D nu o w r v:=by
 unfold u5 at ha
 split at ha
 ·rename_i e hs hd
  split at ha
  ·rename_i p' rows he hsrc
   split at ha
   ·rename_i ns hns;simp only [Ve,Vf] at ha;obtain ⟨rfl,rfl⟩:=ha;obtain rfl:=np hns
    rcases iu h (by decide) hx hsrc hp with ⟨rfl,h0⟩|⟨g,c,news,rfl,hL,hcell⟩
    ·obtain rfl:ns=[]:=by simpa using h0
     exact ⟨_,run_convert_bytes_nil w src e hs he 0 0 dst hd, .v _⟩
    ·have hlen:news.length=ns.length:=by have:=hL.len;simpa using this
     have hnews:news=ns.map (Value.int .u8):=by
      refine List.ext_getElem? (fun i=> ?_)
      rcases U6 i ns.length with hi|hi
      ·obtain ⟨u,h1,h2⟩:=hL.cell i 0 [.v (.int .u8 ns[i])] _ (by simp [hi]) rfl;obtain rfl:=h2.b5;simp only [Nat.mul_one,Nat.add_zero] at h1;rw [h1];simp [hi]
      ·rw [Vn (by omega),Vn (by simpa using hi)]
     subst hnews;have hl:=run_loadCells_list (P:=P) w g (ns.map (Value.int .u8)) (fun j v hj=>hcell j v hj);simp only [VW] at hl;refine ⟨_, ?_, .v _⟩;rw [run_convert_bytes_string w src dst e _ _ c hs he hd];simp only [VW];rw [run_bytesToString w g ns.length c ns hl,sg];have he0:ByteArray.empty.data = #[]:=rfl;rw [he0];simp
   ·cases ha
  ·cases ha
 ·cases ha
def LP (s:ByteArray) (i:Nat):Nat:=(s.data.toList.getD i 0).toNat
def u9 (P:Program) (T:TypeId):AV->AV->Option (Prop×AV)
 | .v (.string s), .v (.int _ i)=>match P.underlying T with
  | some .string=>some (0<=i∧i<s.size, .v (.int .u8 (LP s i.toNat)))
  | _=>none
 | .agg cs, .v (.int _ i)=>match P.underlying T with
  | some (.array n e)=>match cw P e,bc P e with
   | some false,some z=>match cs[i.toNat * z]? with
    | some c=>some (0<=i∧i<n,c)
    | none=>none
   | some true,some z=>some ((0<=i∧i<n)∧i.toNat * z+z<=cs.length, .agg ((cs.drop (i.toNat * z)).take z))
   | _,_=>none
  | _=>none
 | _,_=>none
theorem Az {T:TypeId} {a i:AV} {x y:Value} (hx:RA D nu o w a x) (hy:RA D nu o w i y) {p:Prop} {r:AV} (h:u9 P T a i=some (p,r)) (hp:p): ∃v,(Instr.index T x y).run P w = .ok v w∧RA D nu o w r v:=by
 unfold u9 at h
 split at h
 ·rename_i s k i';obtain rfl:=hx.b5;obtain rfl:=hy.b5
  split at h
  ·rename_i hu;cases h;obtain ⟨h1,h2⟩:=hp
   have hlt:i'.toNat<s.size:=by omega
   have e:s[i'.toNat]? = some s[i'.toNat]:=by simp [hlt]
   have e2:(s.data.toList.getD i'.toNat 0)=s[i'.toNat]:=by
    have hl:i'.toNat<s.data.toList.length:=by simpa using hlt
    rw [VX,Vi hl]
    rfl
   refine ⟨_, ?_, .v _⟩;simp only [Instr.index,asIntOf,Sem.run_bind,Sem.run_pure,Result.andThen_ok,run_underlying hu,h1,if_true,e,LP,e2]
  ·cases h
 ·rename_i cs k i';obtain rfl:=hy.b5
  split at h
  ·rename_i n e hu
   split at h
   ·rename_i z e1 e2
    split at h
    ·rename_i c hc;cases h
     cases hx with
     | agg _ xs k1 k2 k3=>
     have hlt:i'.toNat * z<xs.size:=by rw [<-k1];exact (U4.1 hc).1
     have hx:xs[i'.toNat * z]? = some xs[i'.toNat * z]:=Vh hlt;refine ⟨xs[i'.toNat * z], ?_,k2 _ _ _ hc hx⟩;simp [Instr.index,asIntOf,run_underlying hu,hp,part,ff e1,run_sizeOf e2,hx]
    ·cases h
   ·rename_i z e1 e2;cases h;obtain ⟨hp1,hp2⟩:=hp
    cases hx with
    | agg _ xs k1 k2 k3=>
    refine ⟨.agg (xs.extract (i'.toNat * z) (i'.toNat * z+z)),by simp [Instr.index,asIntOf,run_underlying hu,hp1,part,ff e1,run_sizeOf e2], .agg _ _ (by simp;omega) (fun j c x h1 h2=> ?_) (fun j x h2=> ?_)⟩
    ·rw [List.getElem?_take] at h1;rw [VI] at h2
     split at h1
     ·split at h2
      ·rw [List.getElem?_drop] at h1;exact k2 _ _ _ h1 h2
      ·cases h2
     ·cases h1
    ·rw [VI] at h2
     split at h2
     ·exact k3 _ _ h2
     ·cases h2
   ·cases h
  ·cases h
 ·cases h
def nc (i:Nat):AV->Option AV
 | .cy vs=>vs[i]?
 | _=>none
theorem vB {i:Nat} {a:AV} {x:Value} (hx:RA D nu o w a x) {r:AV} (h:nc i a=some r): ∃v,(Instr.extract x i).run P w = .ok v w∧RA D nu o w r v:=by
 unfold nc at h
 split at h
 ·cases hx with
  | cy _ xs h1 h2=>
   have hlt:i<xs.size:=by rw [<-h1];exact (U4.1 h).1
   have e:xs[i]? = some xs[i]:=Vh hlt;exact ⟨xs[i],by simp [Instr.extract,e],h2 i r _ h e⟩
 ·cases h
def FF (P:Program) (T:TypeId):AV->Option AV
 | .aH _ _ len=>match P.underlying T with
  | some (.slice _)=>some (.v (.int .i64 len))
  | _=>none
 | .v (.string s)=>match P.underlying T with
  | some .string=>some (.v (.int .i64 s.size))
  | _=>none
 | .v (.slice none 0 0)=>match P.underlying T with
  | some (.slice _)=>some (.v (.int .i64 0))
  | _=>none
 | .mp rows=>match P.underlying T with
  | some (.map _ _)=>some (.v (.int .i64 rows.length))
  | _=>none
 | _=>none
def BO (P:Program) (T:TypeId) (o:List (Option aa)):AV->Option (Prop×AV)
 | .vec id len=>match o[id]?,P.underlying T with
  | some (some ob),some (.slice _)=>some (ob.du=true∧ob.rows.length=len, .v (.int .i64 len))
  | some (some ob),some (.map _ _)=>some (ob.du=false∧ob.z=0∧len=0, .v (.int .i64 ob.rows.length))
  | _,_=>none
 | a=>(FF P T a).map fun r=>(True,r)
theorem G8 {T:TypeId} (ty:TypeId) {a:AV} {x:Value} (hr:RO D nu o w) (hx:RA D nu o w a x) {p:Prop} {r:AV} (h:BO P T o a=some (p,r)) (hp:p): ∃v,(Builtin.len_ #[T] ty #[x]).run P w = .ok v w∧RA D nu o w r v:=by
 have plain: ∀a,RA D nu o w a x-> ∀r,FF P T a=some r-> ∃v,(Builtin.len_ #[T] ty #[x]).run P w = .ok v w∧RA D nu o w r v:=by
  intro a hx r h;unfold FF at h
  split at h
  ·split at h
   ·rename_i hu;cases h
    cases hx with
    | br=>exact ⟨_,by simp [Builtin.len_,run_underlying hu,goInt], .v _⟩
    | bz=>exact ⟨_,by simp [Builtin.len_,run_underlying hu,goInt], .v _⟩
    | aH=>exact ⟨_,by simp [Builtin.len_,run_underlying hu,goInt], .v _⟩
   ·cases h
  ·obtain rfl:=hx.b5
   split at h
   ·rename_i hu;cases h;exact ⟨_,by simp [Builtin.len_,run_underlying hu,goInt], .v _⟩
   ·cases h
  ·obtain rfl:=hx.b5
   split at h
   ·rename_i hu;cases h;exact ⟨_,by simp [Builtin.len_,run_underlying hu,goInt], .v _⟩
   ·cases h
  ·split at h
   ·rename_i hu;cases h
    cases hx with
    | mp _ b es cl h1 h2 h3=>exact ⟨.int .i64 es.size,by simp [Builtin.len_,run_underlying hu,MapKept.run_getObj_map h2,goInt],by rw [h3];exact .v _⟩
   ·cases h
  ·cases h
 unfold BO at h
 split at h
 ·rename_i id len
  split at h
  ·rename_i ob e ho hu;cases h;obtain ⟨hv,rfl⟩:=hp;cases hx;obtain ⟨xs,hown,_⟩:=hr.qq ho hv
   rcases hown.2 with ⟨e1,e2⟩|⟨g,cap,cur,e1,_⟩
   ·rw [e1];refine ⟨.int .i64 0,by simp [Builtin.len_,run_underlying hu,goInt], ?_⟩;rw [e2];exact .v _
   ·rw [e1];exact ⟨_,by simp [Builtin.len_,run_underlying hu,goInt], .v _⟩
  ·rename_i ob e1 e2 ho hu;cases h;obtain ⟨hV,hz,rfl⟩:=hp;cases hx
   rcases hr.obj id ob ho with ⟨q1,_⟩|⟨g,cur,hb⟩|⟨g,es,cl,hmp⟩
   ·rw [hV] at q1;cases q1
   ·have:=hb.z;omega
   ·rw [hmp.p8];exact ⟨.int .i64 es.size,by simp [Builtin.len_,run_underlying hu,MapKept.run_getObj_map hmp.blk,goInt],by rw [hmp.sz];exact .v _⟩
  ·cases h
 ·cases hl:FF P T a with
  | none=>rw [hl] at h;cases h
  | some r1=>
   rw [hl] at h;simp only [VB,Ve,Vf] at h;obtain ⟨-, rfl⟩:=h;exact plain a hx _ hl
end
end
section
def AS.ev (s:AS):Operand->AV
 | .tmp t=>s.t.getD t .undef
 | .const v=> .v v
 | .global g=>match tU g with
  | some (_,cs)=> .vp (cs.toList.map .v)
  | none=> .v (.pointer (some ⟨g,0,none⟩))
 | .func f=> .fn f [] []
theorem qj {D:Nat->Prop} {nu:Nat->Nat->Value} {o:List (Option aa)} {w:World} (h:RO D nu o w) (s:AS) (g:Nat):RA D nu o w (s.ev (.global g)) (.pointer (some ⟨g,0,none⟩)):=by
 rw [AS.ev]
 split
 ·rename_i T cs hg;obtain ⟨⟨_,h1⟩,h2,h3⟩:=h.gl g T cs hg;refine .vp _ g 0 (fun j=>cs.getD j Go.undef) ⟨(U2.1 h1).1,h2,h3⟩ (fun j c hc=> ?_) (fun j c hc=> ?_) (fun j c hc=> ?_)
  all_goals
   rw [Vl,Array.getElem?_toList] at hc
   cases hx:cs[j]? with
   | none=>rw [hx] at hc;cases hc
   | some x=> ?_
   rw [hx] at hc;obtain rfl:=Option.some.inj hc
   have hx':cs.getD j Go.undef=x:=by simp [Array.getD_eq_getD_getElem?,hx]
  ·rw [hx'];simp [World.cell?,h1,hx]
  ·rw [hx'];exact .v x
  ·rw [hx'];exact D8 g T cs hg j x hx
 ·exact .v _
def AS.put (s:AS) (dst:Option Tmp) (r:AV) (o':List (Option aa)):AS:=⟨match dst with|some d=>s.t.set d r|none=>s.t,o',s.y⟩
def oD (P:Program) (ev:Operand->AV) (o:List (Option aa)):Builtin->List Operand->List TypeId->Option (Prop×AV)
 | .len,[x],[T]=>BO P T o (ev x).st
 | .min,[x,y],_=>match ev x,ev y with
  | .v (.int k a), .v (.int _ b)=>some (True, .v (.int k (if b<a then b else a)))
  | _,_=>none
 | .max,[x,y],_=>match ev x,ev y with
  | .v (.int k a), .v (.int _ b)=>some (True, .v (.int k (if b > a then b else a)))
  | _,_=>none
 | _,_,_=>none
def xi (P:Program) (ev:Operand->AV) (o:List (Option aa)):Op->Option (Prop×AV)
 | .move x| .assign x=>some (True,ev x)
 | .nilCheck x=>match ev x with
  | .vp cs=>some (True, .vp cs)
  | .ptr id len z row off=>some (True, .ptr id len z row off)
  | .fn g f c=>some (True, .fn g f c)
  | _=>none
 | .build T parts=>match u4 P T (parts.toList.map fun p=>(p.1,ev p.2)) with
  | some r=>some (True,r)
  | none=>none
 | .load T x=>xa P T o (ev x)
 | .binOp op T x y _=>Jo P op T (ev x) (ev y)
 | .unOp op _ x=>match QE op (ev x) with
  | some r=>some (True,r)
  | none=>none
 | .convert src dst x=>match w9 P src dst (ev x) with
  | some r=>some (True,r)
  | none=>none
 | .makeFunc (.func f) first caps=>some (True, .fn f (first.toList.map ev) (caps.toList.map ev))
 | .fieldAddr T x f=>match jD P T f (ev x) with
  | some r=>some (True,r)
  | none=>none
 | .field T x f=>u6 P T f (ev x)
 | .indexAddr T x i=>jE P T o (ev x).st (ev i)
 | .index T x i=>u9 P T (ev x) (ev i)
 | .lookup T m k ok=>xb P T o (ev m) (ev k) ok
 | .extract x i=>match nc i (ev x) with
  | some r=>some (True,r)
  | none=>none
 | .call c=>match c.callee with
  | .builtin b=>oD P ev o b c.args.toList c.argTypes.toList
  | _=>none
 | _=>none
def qE (P:Program) (ev:Operand->AV) (o:List (Option aa)):List Operand->List TypeId->Option (Prop×AV×List (Option aa))
 | [x,y],[T,T']=>if T=T' then qc P T o (ev x) (ev y).st else none
 | _,_=>none
def BM (P:Program) (T:TypeId) (o:List (Option aa)) (a b:AV):Option (Prop×AV×List (Option aa)):=
 match gF P T,a with
 | some (e,z,bytes), .vec id len=>match o[id]?,mv o z b with
  | some (some ob),some (p,rows2)=>some ((ob.du=true∧ob.z=z∧ob.T=e∧ob.rows.length=len)∧p∧rows2.length=len, .v (.int .i64 (len:Nat)),o.set id (some { ob with rows:=rows2 }))
  | _,_=>none
 | _,_=>none
def zH (P:Program) (ev:Operand->AV) (o:List (Option aa)):List Operand->List TypeId->Option (Prop×AV×List (Option aa))
 | [x,y],[T,T']=>if T=T' then BM P T o (ev x) (ev y).st else none
 | _,_=>none
section
variable {D:Nat->Prop} {nu:Nat->Nat->Value} {o:List (Option aa)} {w:World}
theorem Bj {P:Program} (w:World) (T ty e:TypeId) {i:TypeInfo} (hu:P.underlying T=some (.slice e)) (hi:P.info? e=some i) (g n dcap:Nat) (a:Addr) (scap:Nat) (cur:Array Value) (t:TypeId) (news:List Value)
  (hg:w.heap[g]? = some (.cells cur t (0,0))) (hN:news.length=n * i.size) (hcell: ∀j u,news[j]? = some u->w.cell? (a.add j)=some u) (hsz:news.length<=cur.size) (h1: ∀v∈news,v.oneCell'=true) :
  (Builtin.copy_ #[T,T] ty #[.slice (some ⟨g,0,none⟩) n dcap, .slice (some a) n scap]).run P w = .ok (goInt n) (w.setRow g (news++cur.toList.drop news.length).toArray):=by
 have hl:=run_loadCells_list (P:=P) w a news hcell;have hst:=run_storeCells_at P g 0 t news 0 cur w hg (by simpa using hsz) h1;simp only [Nat.zero_add,List.take_zero,List.nil_append] at hst;simp [Builtin.copy_,run_underlying hu,Builtin.lenOf,Builtin.firstCells,sizeOf,typeInfo,hi, <- hN,hl,hst]
theorem Bi {P:Program} (w:World) (T ty e:TypeId) {i:TypeInfo} (hu:P.underlying T=some (.slice e)) (hi:P.info? e=some i) (d a:Option Addr) (dcap scap:Nat) :
  (Builtin.copy_ #[T,T] ty #[.slice d 0 dcap, .slice a 0 scap]).run P w = .ok (goInt 0) w:=by
 have hl: ∀(x:Addr),(loadCells x 0).run P w = .ok #[] w:=fun x=>by simpa using run_loadCells_list (P:=P) w x [] (by simp)
 cases d<;>cases a<;>simp [Builtin.copy_,run_underlying hu,Builtin.lenOf,Builtin.firstCells,sizeOf,typeInfo,hi,storeCells,hl]
theorem D9 {P:Program} {T:TypeId} (ty:TypeId) {e:TypeId} {z bytes:Nat} (ht:gF P T=some (e,z,bytes)) (h:RO D nu o w) {id:Nat} {ob:aa} (ho:o[id]? = some (some ob)) (hv:ob.du=true) (hz:ob.z=z) (hT:ob.T=e) {b:AV} {y:Value} (hs:RA D nu o w b y)
  {p:Prop} {rows2:List (List AV)} (e2:mv o z b=some (p,rows2)) (hp:p) (hlen:rows2.length=ob.rows.length) :
  Good D nu o w ((Builtin.copy_ #[T,T] ty #[nu id ob.rows.length,y]).run P w) (.v (.int .i64 (ob.rows.length:Nat))) (o.set id (some { ob with rows:=rows2 })):=by
 obtain ⟨hu,i,zv,hi,hzv,hzs,hz0,hsize,hbytes⟩:=fg ht;obtain ⟨xs,hown,hL,hob⟩:=h.qq ho hv
 have hhl:ob.hl=ob.rows.length:=by simp [aa.hl,hv]
 have none':rows2=[]->o.set id (some { ob with rows:=rows2 })=o:=fun h0=>by
  subst h0;have hr0:ob.rows=[]:=VF (by simpa using hlen.symm)
  have e1:({ ob with rows:=[] }:aa)=ob:=by rw [<-hr0]
  rw [e1]
  apply List.ext_getElem?
  intro k
  by_cases hk:id=k
  ·subst hk;rw [Vq (U4.1 ho).1];exact ho.symm
  ·rw [Vp hk]
 have shape: ∃d dcap,nu id ob.rows.length = .slice d ob.rows.length dcap:=by
  rcases hown.2 with ⟨e4,e5⟩|⟨g',cap,cur,e4,_⟩
  ·exact ⟨none,0,by rw [e4];simp [e5]⟩
  ·exact ⟨_,_,e4⟩
 have zero:rows2=[]-> ∀a c,y = .slice a 0 c->Good D nu o w ((Builtin.copy_ #[T,T] ty #[nu id ob.rows.length,y]).run P w) (.v (.int .i64 (ob.rows.length:Nat))) (o.set id (some { ob with rows:=rows2 })):=by
  intro h0 a c ey;rw [none' h0]
  have hn0:ob.rows.length=0:=by rw [<-hlen,h0];rfl
  obtain ⟨d,dcap,ed⟩:=shape;rw [ed,ey,hn0];exact Good.pure h (.v _) (Bi w T ty e hu hi d a dcap c)
 rcases iu h hz0 hs e2 hp with ⟨rfl,h0⟩|⟨ga,c,news,rfl,hN,hcell⟩
 ·exact zero h0 _ _ rfl
 ·by_cases h0:rows2=[]
  ·exact zero h0 (some ga) c (by rw [h0];rfl)
  ·have hpos:0<rows2.length:=List.length_pos_iff.2 h0
   rcases h.obj id ob ho with e|⟨g,cur,hr⟩|⟨g,es,cl,hmp⟩
   ·obtain ⟨_,e2,_⟩:=e;exact absurd (VF (by rw [hlen,e2];rfl)) h0
   ·obtain ⟨cap,e4,hcap,hcm,hsz⟩:=hr.vec hv
    have hnl:news.length<=cur.size:=by rw [hN.len,hsz,hz,hlen];exact Nat.mul_le_mul_right _ hcap
    have hrun:=Bj (P:=P) w T ty e hu hi g ob.rows.length cap ga c cur ob.T news hr.blk (by rw [hN.len,hlen,hsize]) hcell hnl hN.one
    have hg:b9 (nu id ob.hl)=some g:=by rw [hhl,e4];rfl
    rw [e4,hlen,hrun];generalize hcur:(news++cur.toList.drop news.length).toArray=cur'
    have h5: ∀b,b≠g->(w.setRow g cur').heap[b]? = w.heap[b]? :=fun b hb=>by simp [World.setRow,VY,Ne.symm hb]
    have h6:(w.setRow g cur').heap[g]? = some (.cells cur' ob.T (0,0)):=by simp [World.setRow,VY,hr.blk]
    have hm:=gn (w:=w) (ob':={ ob with rows:=rows2 }) (w':=w.setRow g cur') ho (by simp [aa.hl,hv,hlen]) hg rfl rfl rfl (by simp [World.setRow]) h5;refine ⟨_,_,nu,rfl,hm,mR h ho (by simp [aa.hl,hv,hlen]) hg hm h5 (cur:=cur') ?_, .v _⟩
    have hat: ∀(i j:Nat) row c,rows2[i]? = some row->row[j]? = some c-> ∃x,cur'[i * ob.z+j]? = some x∧RA D nu o w c x∧x.oneCell'=true:=by
     intro i j row c q1 q2;obtain ⟨x,x1,x2⟩:=hN.cell i j row c q1 q2;refine ⟨x, ?_,x2,hN.one x (VD x1)⟩;rw [hz, <- hcur];simp only [Vk];rw [U5 (U4.1 x1).1];exact x1
    refine ⟨h6,hr.ko,fun e'=>by simp [hv] at e',fun _=>⟨cap, ?_, ?_,hcm, ?_⟩,hr.z, ?_,fun i j row c x q1 q2 q3=> ?_,fun i j row c x q1 q2 q3=> ?_⟩
    ·simp only [hlen];exact e4
    ·simp only [hlen];exact hcap
    ·rw [<-hcur];simp;omega
    ·intro i row q;simp only at q ⊢; rw [hz];exact hN.row i row q
    ·obtain ⟨u,u1,u2,u3⟩:=hat i j row c q1 q2;rw [u1] at q3;cases q3;exact u2.mono hm (fun _ _ h=>h)
    ·obtain ⟨u,u1,u2,u3⟩:=hat i j row c q1 q2;rw [u1] at q3;cases q3;exact u3
   ·have:=hmp.du;simp [hv] at this
theorem Aq {P:Program} {T:TypeId} (ty:TypeId) (h:RO D nu o w) {a b:AV} {x y:Value} (hr:RA D nu o w a x) (hs:RA D nu o w b y) {p:Prop} {r:AV} {o':List (Option aa)} (hl:BM P T o a b=some (p,r,o')) (hp:p) :
  Good D nu o w ((Builtin.copy_ #[T,T] ty #[x,y]).run P w) r o':=by
 unfold BM at hl
 split at hl
 ·rename_i e z bytes id len ht
  split at hl
  ·rename_i ob p' rows2 ho e2;simp only [Ve,Vf] at hl;obtain ⟨rfl,rfl,rfl⟩:=hl;obtain ⟨⟨hv,hz,hT,rfl⟩,hp',hlen⟩:=hp;cases hr;exact D9 ty ht h ho hv hz hT hs e2 hp' hlen
  ·cases hl
 ·cases hl
end
def qd (P:Program) (op:BinOp) (T:TypeId) (o:List (Option aa)):AV->AV->Option (Prop×AV)
 | .vec id len, .v (.slice none 0 0)=>if tY P T then (match o[id]? with
  | some (some ob)=>(match op with
   | .eql=>some (ob.du=true∧ob.rows.length=len∧0<len, .v (.bool false))
   | .neq=>some (ob.du=true∧ob.rows.length=len∧0<len, .v (.bool true))
   | _=>none)
  | _=>none) else none
 | _,_=>none
section
variable {D:Nat->Prop} {nu:Nat->Nat->Value} {o:List (Option aa)} {w:World} {P:Program}
theorem za {op:BinOp} {T:TypeId} {a b:AV} {x y:Value} (h:RO D nu o w) (hx:RA D nu o w a x) (hy:RA D nu o w b y) {p:Prop} {r:AV} (ha:qd P op T o a b=some (p,r)) (hp:p) (X Y:Operand) :
  ∃v,(binOp op T x y).run P w = .ok v w∧RA D nu o w r v∧(eqGuard op T X Y x y).run P w = .ok () w:=by
 unfold qd at ha
 split at ha
 ·rename_i id len
  split at ha
  ·rename_i hT
   split at ha
   ·rename_i ob ho
    have key:ob.du=true∧ob.rows.length=len∧0<len-> ∃g n c,x = .slice (some g) n c:=fun ⟨hv,hl,hpos⟩=>by
     subst hl;cases hx
     rcases h.obj id ob ho with ⟨_,e2,_⟩|⟨g,cur,hb⟩|⟨g,es,cl,hmp⟩
     ·rw [e2] at hpos;simp at hpos
     ·obtain ⟨cap,q1,_⟩:=hb.vec hv;exact ⟨_,_,_,q1⟩
     ·have:=hmp.du;rw [this] at hv;cases hv
    obtain rfl:=hy.b5
    split at ha
    ·simp only [Ve,Vf] at ha;obtain ⟨rfl,rfl⟩:=ha;obtain ⟨g,n,c,rfl⟩:=key hp;exact ⟨_,(mT hT).1, .v _,kS (fun _ _ e=>by cases e.1) (fun e=>by cases e)⟩
    ·simp only [Ve,Vf] at ha;obtain ⟨rfl,rfl⟩:=ha;obtain ⟨g,n,c,rfl⟩:=key hp;exact ⟨_,(mT hT).2, .v _,kS (fun _ _ e=>by cases e.1) (fun e=>by cases e)⟩
    ·cases ha
   ·cases ha
  ·cases ha
 ·cases ha
end
def Jy (P:Program) (ev:Operand->AV) (o:List (Option aa)) (op:Op):Option (Prop×AV×List (Option aa)):=
 match op with
 | .box T x=>match (ev x).cells? with
  | some (c :: cs)=>some (True, .ptr o.length 0 (cs.length+1) 0 0,o++[some ⟨T,cs.length+1,false,[c :: cs]⟩])
  | _=>none
 | .alloc T=>match cq P T with
  | some (c :: cs)=>some (True, .ptr o.length 0 (cs.length+1) 0 0,o++[some ⟨T,cs.length+1,false,[c :: cs]⟩])
  | _=>none
 | .buildSlice T len parts=>match e7 P T len o (parts.toList.map fun p=>(p.1,ev p.2)) with
  | some (r,o')=>some (True,r,o')
  | none=>none
 | .store T a x=>match vd P T o (ev a) (ev x) with
  | some (p,o')=>some (p, .v Go.undef,o')
  | none=>none
 | .makeSlice T l c=>BP P T o (ev l) (ev c)
 | .makeMap T none=>some (True, .vec o.length 0,o++[some ⟨T,0,false,[]⟩])
 | .mapUpdate T m k x=>match qH P T o (ev m) (ev k) (ev x) with
  | some (p,o')=>some (p, .v Go.undef,o')
  | none=>none
 | .insert T m k x=>match qH P T o (ev m) (ev k) (ev x) with
  | some (p,o')=>some (p, .v Go.undef,o')
  | none=>none
 | .lookup T m k ok=>match xb P T o (ev m) (ev k) ok with
  | some (p,r)=>some (p,r,o)
  | none=>none
 | .convert src dst x=>match w9 P src dst (ev x) with
  | some r=>some (True,r,o)
  | none=>match u5 P o src dst (ev x).st with
   | some (p,r)=>some (p,r,o)
   | none=>none
 | .slice T x lo hi mx=>mr P T o (ev x).st (lo.map ev) (hi.map ev) (mx.map ev)
 | .binOp op T x y T'=>match xi P ev o (.binOp op T x y T') with
  | some (p,r)=>some (p,r,o)
  | none=>match qd P op T o (ev x) (ev y) with
   | some (p,r)=>some (p,r,o)
   | none=>none
 | .call c=>match c.callee with
  | .builtin .append=>qE P ev o c.args.toList c.argTypes.toList
  | .builtin .copy=>zH P ev o c.args.toList c.argTypes.toList
  | _=>match xi P ev o (.call c) with
   | some (p,r)=>some (p,r,o)
   | none=>none
 | op=>match xi P ev o op with
  | some (p,r)=>some (p,r,o)
  | none=>none
section
variable {D:Nat->Prop} {nu:Nat->Nat->Value} {o:List (Option aa)} {w:World} {P:Program}
def I0 (D:Nat->Prop) (nu:Nat->Nat->Value) (o:List (Option aa)) (w:World) (ev:Operand->AV) (rho:Operand->Value) (op:Op):Prop:= ∀x,x∈op.operands.toList->RA D nu o w (ev x) (rho x)
theorem jf {ev:Operand->AV} {rho:Operand->Value} {oo:Oper} (h:RO D nu o w) (hev:I0 D nu o w ev rho oo.op) {p:Prop} {r:AV} (ha:xi P ev o oo.op=some (p,r)) (hp:p) :
  ∃v,(execOp rho oo).run P w = .ok (.value v) w∧RA D nu o w r v:=by
 obtain ⟨dst,op,ty,pos,after,guard⟩:=oo;simp only [I0] at hev ha;unfold xi at ha
 split at ha
 ·rename_i x;cases ha;exact ⟨rho x,rfl,hev x (by simp [Op.operands])⟩
 ·rename_i x;cases ha;exact ⟨rho x,rfl,hev x (by simp [Op.operands])⟩
 ·rename_i x;have hx:=hev x (by simp [Op.operands]);generalize hq:rho x=vx at hx
  split at ha
  ·rename_i e;rw [e] at hx;cases ha;refine ⟨vx, ?_,hx⟩;cases hx;simp only [execOp,hq,Sem.run_pure]
  ·rename_i e;rw [e] at hx;cases ha;refine ⟨vx, ?_,hx⟩;cases hx;simp only [execOp,hq,Sem.run_pure]
  ·rename_i e;rw [e] at hx;cases ha;refine ⟨vx, ?_,hx⟩;cases hx;simp only [execOp,hq,Sem.run_pure]
  ·cases ha
 ·rename_i T parts
  split at ha
  ·rename_i r' hb;cases ha
   obtain ⟨v,h1,h2⟩:=Ap (P:=P) (vs:=parts.map fun (i,x)=>(i,rho x)) (by simp) (fun k p q a b=>by
    rw [Vl] at a;rw [VZ] at b
    have e:parts.toList[k]? = parts[k]? :=by simp
    rw [e] at a
    cases hk:parts[k]? with
    | none=>rw [hk] at a;cases a
    | some pr=>
     rw [hk] at a b;cases a;cases b
     exact ⟨rfl,hev pr.2 (by
      simp only [Op.operands]
      have:pr∈parts.toList:=VD (by rw [e];exact hk)
      simpa using ⟨pr.1,by simpa using this⟩)⟩) hb
   exact ⟨v,by simp [execOp,h1],h2⟩
  ·cases ha
 ·rename_i T x;obtain ⟨v,h1,h2⟩:=lI (P:=P) h (hev x (by simp [Op.operands])) ha hp;exact ⟨v,by simp [execOp,h1],h2⟩
 ·rename_i op' T x y T';obtain ⟨v,h1,h2,h3⟩:=F6 (P:=P) (hev x (by simp [Op.operands])) (hev y (by simp [Op.operands])) ha hp x y;exact ⟨v,by simp [execOp,h1,h3],h2⟩
 ·rename_i op' T x
  split at ha
  ·rename_i r' hb;cases ha;obtain ⟨v,h1,h2⟩:=Lm (P:=P) (hev x (by simp [Op.operands])) hb;exact ⟨v,by simp [execOp,h1],h2⟩
  ·cases ha
 ·rename_i src dst' x
  split at ha
  ·rename_i r' hb;cases ha;obtain ⟨v,h1,h2⟩:=tM (P:=P) (hev x (by simp [Op.operands])) hb;exact ⟨v,by simp [execOp,h1],h2⟩
  ·cases ha
 ·rename_i f first caps
  cases ha
  refine ⟨.func (.func f) (first.map rho) (caps.map rho),by simp [execOp,Instr.makeFunc], .fn _ _ _ _ _ (by simp) (by simp) (fun i c x q1 q2=> ?_) (fun i c x q1 q2=> ?_)⟩
  ·rw [Vl] at q1;rw [VZ] at q2
   have e:first.toList[i]? = first[i]? :=by simp
   rw [e] at q1
   cases hk:first[i]? with
   | none=>rw [hk] at q1;cases q1
   | some pr=>
    rw [hk] at q1 q2;cases q1;cases q2;exact hev pr (by simp only [Op.operands];have:=V0 hk;simp [this])
  ·rw [Vl] at q1;rw [VZ] at q2
   have e:caps.toList[i]? = caps[i]? :=by simp
   rw [e] at q1
   cases hk:caps[i]? with
   | none=>rw [hk] at q1;cases q1
   | some pr=>
    rw [hk] at q1 q2;cases q1;cases q2;exact hev pr (by simp only [Op.operands];have:=V0 hk;simp [this])
 ·rename_i T x f
  split at ha
  ·rename_i r' hb;cases ha;obtain ⟨v,h1,h2⟩:=rC (P:=P) (hev x (by simp [Op.operands])) hb;exact ⟨v,by simp [execOp,h1],h2⟩
  ·cases ha
 ·rename_i T x f;obtain ⟨v,h1,h2⟩:=Ar (P:=P) (hev x (by simp [Op.operands])) ha hp;exact ⟨v,by simp [execOp,h1],h2⟩
 ·rename_i T x i;obtain ⟨v,h1,h2⟩:=rD (P:=P) h (hev x (by simp [Op.operands])).st (hev i (by simp [Op.operands])) ha hp;exact ⟨v,by simp [execOp,h1],h2⟩
 ·rename_i T x i;obtain ⟨v,h1,h2⟩:=Az (P:=P) (hev x (by simp [Op.operands])) (hev i (by simp [Op.operands])) ha hp;exact ⟨v,by simp [execOp,h1],h2⟩
 ·rename_i T m k ok;obtain ⟨v,h1,h2⟩:=qG (P:=P) h (hev m (by simp [Op.operands])) (hev k (by simp [Op.operands])) ha hp;exact ⟨v,by simp [execOp,h1],h2⟩
 ·rename_i x i
  split at ha
  ·rename_i r' hb;cases ha;obtain ⟨v,h1,h2⟩:=vB (P:=P) (hev x (by simp [Op.operands])) hb;exact ⟨v,by simp [execOp,h1],h2⟩
  ·cases ha
 ·rename_i c
  split at ha
  ·rename_i b hc;have hops: ∀x,x∈c.args.toList->RA D nu o w (ev x) (rho x):=fun x hx=>hev x (by simp only [Op.operands,Call.operands,hc];simpa using hx);obtain ⟨callee,args,argTypes⟩:=c;simp only at hc ha hops;subst hc;obtain ⟨args⟩:=args;obtain ⟨argTypes⟩:=argTypes;simp only at ha hops;unfold oD at ha
   split at ha
   ·rename_i x T;obtain ⟨v,h1,h2⟩:=G8 (P:=P) ty h (hops x (by simp)).st ha hp;exact ⟨v,by simp [execOp,resolve,invoke,builtin,h1],h2⟩
   ·rename_i Ts x y;have h1:=hops x (by simp);have h2:=hops y (by simp)
    split at ha
    ·rename_i e1 e2;cases ha;rw [e1] at h1;rw [e2] at h2;have q1:=h1.b5;have q2:=h2.b5;exact ⟨_,by simp [execOp,resolve,invoke,builtin,Builtin.min_,Builtin.min2,q1,q2], .v _⟩
    ·cases ha
   ·rename_i Ts x y;have h1:=hops x (by simp);have h2:=hops y (by simp)
    split at ha
    ·rename_i e1 e2;cases ha;rw [e1] at h1;rw [e2] at h2;have q1:=h1.b5;have q2:=h2.b5;exact ⟨_,by simp [execOp,resolve,invoke,builtin,Builtin.max_,Builtin.max2,q1,q2], .v _⟩
    ·cases ha
   ·cases ha
  ·cases ha
 ·cases ha
def Lu (D:Nat->Prop) (nu:Nat->Nat->Value) (o:List (Option aa)) (w:World) (res:Result Next) (r:AV) (o':List (Option aa)):Prop:=
 ∃v w' nu',(res = .ok (.value v) w'∨(res = .ok .skip w'∧v=Go.undef))∧bt nu o w nu' o' w'∧RO D nu' o' w'∧RA D nu' o' w' r v
theorem LQ {x:Sem Value} {r:AV} {o':List (Option aa)} (h:Good D nu o w (x.run P w) r o'):Lu D nu o w ((do pure (Next.value (<-x)):Sem Next).run P w) r o':=by
 obtain ⟨v,w',nu',h1,h2⟩:=h;exact ⟨v,w',nu', .inl (by simp [h1]),h2⟩
theorem jo {ev:Operand->AV} {rho:Operand->Value} {lo:Option Operand} (h: ∀x,lo=some x->RA D nu o w (ev x) (rho x)):(∀c,lo.map ev=some c-> ∃y,lo.map rho=some y∧RA D nu o w c y)∧(lo.map ev=none->lo.map rho=none):=by
 cases lo with
 | none=>exact ⟨fun c hc=>(by cases hc),fun _=>rfl⟩
 | some x=>exact ⟨fun c hc=>by cases hc;exact ⟨_,rfl,h x rfl⟩,fun hc=>by cases hc⟩
theorem xx {T:TypeId} {c:AV} {cs:List AV} {x:Value} (h:RO D nu o w) (hc:Jj D nu o w (c :: cs) x.cells):Good D nu o w ((Instr.box T x).run P w) (.ptr o.length 0 (cs.length+1) 0 0) (o++[some ⟨T,cs.length+1,false,[c :: cs]⟩]):=by
 have:=GF h T hc (by simp)
 simp only [List.length_cons] at this
 have e:(Instr.box T x).run P w = .ok (.pointer (some ⟨w.heap.size,0,none⟩)) (w.alloc (.cells x.cells T)):=by simp [Instr.box,newVar,newRow]
 rw [e];exact this
theorem xj {ev:Operand->AV} {rho:Operand->Value} {oo:Oper} (h:RO D nu o w) (hev:I0 D nu o w ev rho oo.op) {p:Prop} {r:AV} {o':List (Option aa)} (ha:Jy P ev o oo.op=some (p,r,o')) (hp:p) :
  Lu D nu o w ((execOp rho oo).run P w) r o':=by
 unfold Jy at ha
 split at ha
 ·rename_i T x hop;have hx:=hev x (by rw [hop];simp [Op.operands])
  split at ha
  ·rename_i c cs hc;cases ha
   have:=LQ (xx (P:=P) (T:=T) h (hx.one hc))
   simpa only [execOp,hop] using this
  ·cases ha
 ·rename_i T hop
  split at ha
  ·rename_i c cs hc;cases ha;obtain ⟨i,zv,hi,hzv,he,hone⟩:=ix hc
   have hz:(zeroValue T).run P w = .ok zv w:=by simp [zeroValue,typeInfo,hi,hzv]
   have hb:=xx (P:=P) (T:=T) (x:=zv) h (by rw [he];exact wL zv hone)
   have e:(Instr.alloc T true (.tuple #[])).run P w=(Instr.box T zv).run P w:=by simp [Instr.alloc,Instr.box,hz]
   rw [<-e] at hb
   have:=LQ hb
   simpa only [execOp,hop] using this
  ·cases ha
 ·rename_i T len parts hop
  split at ha
  ·rename_i r' o'' hb;cases ha
   have:=LQ (p7 (P:=P) (vs:=parts.map fun (i,x)=>(i,rho x)) h (by simp) (fun k p q a b=>by
    rw [Vl] at a;rw [VZ] at b
    have e:parts.toList[k]? = parts[k]? :=by simp
    rw [e] at a
    cases hk:parts[k]? with
    | none=>rw [hk] at a;cases a
    | some pr=>
     rw [hk] at a b;cases a;cases b
     exact ⟨rfl,hev pr.2 (by
      rw [hop];simp only [Op.operands]
      have:pr∈parts.toList:=VD (by rw [e];exact hk)
      simpa using ⟨pr.1,by simpa using this⟩)⟩) hb)
   simpa only [execOp,hop] using this
  ·cases ha
 ·rename_i T a x hop
  split at ha
  ·rename_i p' o'' hb;cases ha;obtain ⟨w',h1,h2,h3⟩:=Au (P:=P) h (hev a (by rw [hop];simp [Op.operands])) (hev x (by rw [hop];simp [Op.operands])) hb hp;exact ⟨_,w',nu, .inr ⟨by simp [execOp,hop,h1],rfl⟩,h2,h3, .v _⟩
  ·cases ha
 ·rename_i T l c hop
  have:=LQ (Ea (P:=P) h (hev l (by rw [hop];simp [Op.operands])) (hev c (by rw [hop];simp [Op.operands])) ha hp)
  simpa only [execOp,hop] using this
 ·rename_i T hop;cases ha
  have:=LQ (vP h P T)
  simpa [execOp,hop] using this
 ·rename_i T m k x hop
  split at ha
  ·rename_i p' o'' hb;cases ha;obtain ⟨w',h1,h2,h3⟩:=pC (P:=P) h (hev m (by rw [hop];simp [Op.operands])) (hev k (by rw [hop];simp [Op.operands])) (hev x (by rw [hop];simp [Op.operands])) hb hp;exact ⟨_,w',nu, .inr ⟨by simp [execOp,hop,h1],rfl⟩,h2,h3, .v _⟩
  ·cases ha
 ·rename_i T m k x hop
  split at ha
  ·rename_i p' o'' hb;cases ha;obtain ⟨w',h1,h2,h3⟩:=pC (P:=P) h (hev m (by rw [hop];simp [Op.operands])) (hev k (by rw [hop];simp [Op.operands])) (hev x (by rw [hop];simp [Op.operands])) hb hp;exact ⟨_,w',nu, .inr ⟨by simp [execOp,hop,h1],rfl⟩,h2,h3, .v _⟩
  ·cases ha
 ·rename_i T m k ok hop
  split at ha
  ·rename_i p' r' hb;cases ha;obtain ⟨v,h1,h2⟩:=qG (P:=P) h (hev m (by rw [hop];simp [Op.operands])) (hev k (by rw [hop];simp [Op.operands])) hb hp;exact ⟨v,w,nu, .inl (by simp [execOp,hop,h1]), .refl nu o w,h,h2⟩
  ·cases ha
 ·rename_i src dst x hop;have hx:=hev x (by rw [hop];simp [Op.operands])
  split at ha
  ·rename_i r' hb;cases ha;obtain ⟨v,h1,h2⟩:=tM (P:=P) hx hb;exact ⟨v,w,nu, .inl (by simp [execOp,hop,h1]), .refl nu o w,h,h2⟩
  ·split at ha
   ·rename_i p' r' hb;cases ha;obtain ⟨v,h1,h2⟩:=Af (P:=P) h hx.st hb hp;exact ⟨v,w,nu, .inl (by simp [execOp,hop,h1]), .refl nu o w,h,h2⟩
   ·cases ha
 ·rename_i T x lo hi mx hop
  have:=LQ (As (P:=P) h (hev x (by rw [hop];simp [Op.operands])).st (jo (rho:=rho) (fun y hy=>hev y (by rw [hop,hy];simp [Op.operands]))) (jo (rho:=rho) (fun y hy=>hev y (by rw [hop,hy];simp [Op.operands]))) (jo (rho:=rho) (fun y hy=>hev y (by rw [hop,hy];simp [Op.operands]))) ha hp)
  simpa only [execOp,hop] using this
 ·rename_i op' T x y T' hop
  split at ha
  ·rename_i p' r' hb;cases ha;rw [<-hop] at hb;obtain ⟨v,h1,h2⟩:=jf (P:=P) h hev hb hp;exact ⟨v,w,nu, .inl h1, .refl nu o w,h,h2⟩
  ·split at ha
   ·rename_i p' r' hb;cases ha;obtain ⟨v,h1,h2,h3⟩:=za (P:=P) h (hev x (by rw [hop];simp [Op.operands])) (hev y (by rw [hop];simp [Op.operands])) hb hp x y;exact ⟨v,w,nu, .inl (by simp [execOp,hop,h1,h3]), .refl nu o w,h,h2⟩
   ·cases ha
 ·rename_i c hop
  split at ha
  ·rename_i hc;have hops: ∀x,x∈c.args.toList->RA D nu o w (ev x) (rho x):=fun x hx=>hev x (by rw [hop];simp only [Op.operands,Call.operands,hc];simpa using hx);obtain ⟨callee,args,argTypes⟩:=c;simp only at hc ha hops;subst hc;obtain ⟨args⟩:=args;obtain ⟨argTypes⟩:=argTypes;simp only at ha hops;unfold qE at ha
   split at ha
   ·rename_i x y T T'
    split at ha
    ·rename_i hT;subst hT
     have:=LQ (xT (P:=P) oo.type h (hops x (by simp)) (hops y (by simp)).st ha hp)
     simpa [execOp,hop,resolve,invoke,builtin] using this
    ·cases ha
   ·cases ha
  ·rename_i hc;have hops: ∀x,x∈c.args.toList->RA D nu o w (ev x) (rho x):=fun x hx=>hev x (by rw [hop];simp only [Op.operands,Call.operands,hc];simpa using hx);obtain ⟨callee,args,argTypes⟩:=c;simp only at hc ha hops;subst hc;obtain ⟨args⟩:=args;obtain ⟨argTypes⟩:=argTypes;simp only at ha hops;unfold zH at ha
   split at ha
   ·rename_i x y T T'
    split at ha
    ·rename_i hT;subst hT
     have:=LQ (Aq (P:=P) oo.type h (hops x (by simp)) (hops y (by simp)).st ha hp)
     simpa [execOp,hop,resolve,invoke,builtin] using this
    ·cases ha
   ·cases ha
  ·split at ha
   ·rename_i p' r' hb;cases ha;rw [<-hop] at hb;obtain ⟨v,h1,h2⟩:=jf (P:=P) h hev hb hp;exact ⟨v,w,nu, .inl h1, .refl nu o w,h,h2⟩
   ·cases ha
 ·split at ha
  ·rename_i p' r' hb;cases ha;obtain ⟨v,h1,h2⟩:=jf (P:=P) h hev hb hp;exact ⟨v,w,nu, .inl h1, .refl nu o w,h,h2⟩
  ·cases ha
end
end
section
mutual
def AV.wf (n:Nat):AV->Bool
 | .undef=>true
 | .v _=>true
 | .agg cs=>bp n cs
 | .cy vs=>bp n vs
 | .aH _ rows _=>bZ n rows
 | .vp cs=>bp n cs
 | .ptr id _ _ _ _=>decide (id<n)
 | .vec id _=>decide (id<n)
 | .fn _ f c=>bp n f&&bp n c
 | .full a=>a.wf n
 | .gu _ a=>a.wf n
 | .mp rows=>bZ n rows
def bp (n:Nat):List AV->Bool
 | []=>true
 | a :: l=>a.wf n&&bp n l
def bZ (n:Nat):List (List AV)->Bool
 | []=>true
 | r :: l=>bp n r&&bZ n l
end
theorem bO {n:Nat}: ∀ {l:List AV},bp n l=true-> ∀ {i:Nat} {c:AV},l[i]? = some c->c.wf n=true
 | [],_,i,c,h=>by simp at h
 | a :: l,h,0,c,hi=>by simp only [bp,VS] at h;simp at hi;subst hi;exact h.1
 | a :: l,h,i+1,c,hi=>by simp only [bp,VS] at h;exact bO h.2 (by simpa using hi)
theorem gT {n:Nat}: ∀ {l:List (List AV)},bZ n l=true-> ∀ {i:Nat} {r:List AV},l[i]? = some r->bp n r=true
 | [],_,i,c,h=>by simp at h
 | a :: l,h,0,c,hi=>by simp only [bZ,VS] at h;simp at hi;subst hi;exact h.1
 | a :: l,h,i+1,c,hi=>by simp only [bZ,VS] at h;exact gT h.2 (by simpa using hi)
theorem wG {n:Nat}: ∀ {l:List (List AV)},(∀r∈l,bp n r=true)->bZ n l=true
 | [],_=>rfl
 | a :: l,h=>by simp only [bZ,VS];exact ⟨h a (by simp),wG (fun c hc=>h c (by simp [hc]))⟩
theorem aZ {α:Type} {n:Nat} (f:α->List AV) (h: ∀x,bp n (f x)=true) (l:List α):bZ n (l.map f)=true:=wG (fun r hr=>by
 obtain ⟨x,_,rfl⟩:=List.mem_map.1 hr;exact h x)
section
variable {D D':Nat->Prop} {nu nu':Nat->Nat->Value} {o o':List (Option aa)} {w:World} {P:Program}
theorem RA.tr {n:Nat} (hF: ∀b,Fz D nu o w b->Fz D' nu' o' w b) (hH: ∀id len,id<n->c7 o id len->c7 o' id len∧nu' id len=nu id len) {a:AV} {x:Value} (hr:RA D nu o w a x) (ha:a.wf n=true):RA D' nu' o' w a x:=by
 induction hr with
 | undef x=>exact .undef x
 | v x=>exact .v x
 | agg cs xs h1 _ h3 ih=>exact .agg cs xs h1 (fun i c x hc hx=>ih i c x hc hx (bO ha hc)) h3
 | cy cs xs h1 _ ih=>exact .cy cs xs h1 (fun i c x hc hx=>ih i c x hc hx (bO ha hc))
 | br z=>exact .br z
 | bz z a=>exact .bz z a
 | aH z rows len b off cap f h1 h2 h3 h4 h5 h6 _ h8 ih=>
  exact .aH z rows len b off cap f h1 h2 h3 (fun hne=>hF b (h4 hne)) h5 h6 (fun i j row c hi hj=>ih i j row c hi hj (bO (gT ha hi) hj)) h8
 | vp cs b off f h1 h2 _ h4 ih=>exact .vp cs b off f (hF b h1) h2 (fun j c hc=>ih j c hc (bO ha hc)) h4
 | ptr id len z row off b h1 h2=>
  simp only [AV.wf,decide_eq_true_eq] at ha;obtain ⟨h3,h4⟩:=hH id len ha h1;exact .ptr id len z row off b h3 (by rw [h4];exact h2)
 | vec id len h1 h2=>
  simp only [AV.wf,decide_eq_true_eq] at ha;obtain ⟨h3,h4⟩:=hH id len ha h1;rw [<-h4];exact .vec id len h3 (by rw [h4];exact h2)
 | fn g first caps fi ca h1 h2 _ _ ih1 ih2=>
  simp only [AV.wf,VS] at ha
  exact .fn g first caps fi ca h1 h2 (fun i c x hc hx=>ih1 i c x hc hx (bO ha.1 hc)) (fun i c x hc hx=>ih2 i c x hc hx (bO ha.2 hc))
 | full a x h1 _ ih=>
  simp only [AV.wf] at ha;exact .full a x h1 (ih ha)
 | gu p a x S h0 h1 hc h2 _ ih=>
  simp only [AV.wf] at ha;exact .gu p a x S h0 (fun b hb=>hF b (h1 b hb)) hc h2 (ih ha)
 | mp rows b es cl h1 h2 h3 h4 h5 h6 _ ih=>
  simp only [AV.wf] at ha;exact .mp rows b es cl (hF b h1) h2 h3 h4 h5 h6 (fun i j row c e q1 q2 q3=>ih i j row c e q1 q2 q3 (bO (gT ha q1) q2))
theorem fE.tr {n:Nat} (hF: ∀b,Fz D nu o w b->Fz D' nu' o' w b) (hH: ∀id len,id<n->c7 o id len->c7 o' id len∧nu' id len=nu id len) {cs:List AV} {xs:Array Value} (hr:fE D nu o w cs xs) (ha:bp n cs=true):fE D' nu' o' w cs xs:=
 ⟨hr.len,fun i c x h1 h2=>(hr.at' i c x h1 h2).tr hF hH (bO ha h1)⟩
end
def df (P:Program) (f:FuncId):Bool:=match P.funcs[f]? with
 | some fn=>fn.name != "runtime.NumGoroutine" && fn.body.isSome
 | none=>false
theorem gR {P:Program} {f:FuncId} (h:df P f=true) (args:Array Value) (w:World):(callFunc f args).run P w = .ok (.enter f args) w:=by
 unfold df at h
 split at h
 ·rename_i fn hf;simp only [VS,bne_iff_ne,ne_eq] at h;obtain ⟨c,hc⟩:=Option.isSome_iff_exists.1 h.2;simp [callFunc,hf,h.1,hc]
 ·cases h
def Df (D:Nat->Prop) (nu:Nat->Nat->Value) (o:List (Option aa)) (w:World) (Q:AV->List (Option aa)->Prop) (e:Ending) (w':World):Prop:=
 ∃v nu' o' r,e = .returned v∧bt nu o w nu' o' w'∧RO D nu' o' w'∧RA D nu' o' w' r v∧Q r o'
def eV (P:Program) (f:FuncId) (args:List AV) (o:List (Option aa)) (Q:AV->List (Option aa)->Prop):Prop:=
 df P f=true∧ ∀D nu w vargs,RO D nu o w->fE D nu o w args vargs->Calls P f vargs w (Df D nu o w Q)
def ah (P:Program) (f:FuncId) (args:List AV) (r:AV):Prop:=(bp 0 args=true∧r.wf 0=true)∧eV P f args [] (fun r' o'=>r'=r∧o'=[])
section
variable {D:Nat->Prop} {nu:Nat->Nat->Value} {o:List (Option aa)} {w:World} {P:Program}
theorem eV.mono {f:FuncId} {args:List AV} {Q Q':AV->List (Option aa)->Prop} (h:eV P f args o Q) (hq: ∀r o',Q r o'->Q' r o'):eV P f args o Q':=
 ⟨h.1,fun D nu w vargs h1 h2=>(h.2 D nu w vargs h1 h2).mono (fun _ _ ⟨v,nu',o',r,k1,k2,k3,k4,k5⟩=>⟨v,nu',o',r,k1,k2,k3,k4,hq r o' k5⟩)⟩
def BF (D:Nat->Prop) (nu:Nat->Nat->Value) (o:List (Option aa)) (w:World) (b:Nat):Prop:=b<w.heap.size->Fz D nu o w b
theorem xG {b:Nat} (h:Fz D nu o w b):Fz (BF D nu o w) nu [] w b:=⟨h.1,bd _ _,fun _=>h⟩
theorem Ka (h:RO D nu o w) {nu':Nat->Nat->Value} {w':World} {b:Nat} (hb:Fz (BF D nu o w) nu' [] w' b):Fz D nu o w' b:=by
 rcases U6 b w.heap.size with hlt|hge
 ·have:=hb.2.2 hlt
  exact ⟨hb.1,this.2.1,this.2.2⟩
 ·exact ⟨hb.1,fun ho=>by have:=h.a6 ho;omega,h.up b hge⟩
theorem fu {nu':Nat->Nat->Value} {w':World} (h:bt nu [] w nu' [] w'):Below w.heap.size w w':=⟨h.os,h.tape,h.output,h.size,fun k hk=>(h.keep k hk (bd _ _)).1⟩
theorem jK {f:FuncId} {args:List AV} {r:AV} {vargs:Array Value} (hc:ah P f args r) (h:RO D nu o w) (ha:fE D nu o w args vargs) :
  Calls P f vargs w (fun e w'=> ∃v,e = .returned v∧Below w.heap.size w w'∧RA D nu o w' r v):=by
 obtain ⟨⟨h1,h2⟩,_,h3⟩:=hc;refine (h3 (BF D nu o w) nu w vargs (.nil _ _ _ (fun b hb hlt=>by omega) (h.gl.fz (fun b hf=>⟨rfl,xG hf⟩))) (ha.tr (n:=0) (fun b hb=>xG hb) (fun id len hlt=>by omega) h1)).mono ?_;rintro e w' ⟨v,nu',o',r',rfl,hm,hro,hra,rfl,rfl⟩;exact ⟨v,rfl,fu hm,hra.tr (n:=0) (fun b hb=>Ka h hb) (fun id len hlt=>by omega) h2⟩
def Vw (o:List (Option aa)) (a a':AV):Prop:=(a'=a∧a.wf 0=true)∨ ∃id len ob,a = .vec id len∧o[id]? = some (some ob)∧ob.du=true∧ob.rows.length=len∧bZ 0 ob.rows=true∧a' = .aH ob.z ob.rows len
def QD (o:List (Option aa)):List AV->List AV->Prop
 | [],[]=>True
 | a :: l,b :: m=>Vw o a b∧QD o l m
 | _,_=>False
def AV.flat:AV->Bool
 | .v _=>true
 | .agg cs=>cs.all (fun c=>match c with| .v _=>true|_=>false)
 | _=>false
theorem RA.flat {D':Nat->Prop} {nu':Nat->Nat->Value} {o':List (Option aa)} {w':World} {r:AV} {x:Value} (h:RA D nu o w r x) (hf:r.flat=true):RA D' nu' o' w' r x:=by
 cases h with
 | v=>exact .v _
 | agg cs xs h1 h2 h3=>
  refine .agg cs xs h1 (fun i c x q1 q2=> ?_) h3;have hc:=List.all_eq_true.1 hf c (VD q1);have hr:=h2 i c x q1 q2
  cases c with
  | v y=>cases hr;exact .v _
  | _=>simp at hc
 | _=>simp [AV.flat] at hf
theorem Ln (h:RO D nu o w) {a a':AV} {x:Value} (hv:Vw o a a') (hr:RA D nu o w a x):a'.wf 0=true∧RA (fun _=>True) nu [] w a' x:=by
 have hF: ∀b,b<w.heap.size->Fz (fun _=>True) nu [] w b:=fun b hb=>⟨hb,bd _ _,trivial⟩
 rcases hv with ⟨rfl,hw⟩|⟨id,len,ob,rfl,ho,hv,rfl,hw,rfl⟩
 ·exact ⟨hw,hr.tr (n:=0) (fun b hb=>hF b hb.1) (fun id len hlt=>by omega) hw⟩
 ·refine ⟨by simpa only [AV.wf] using hw, ?_⟩;cases hr;exact (kf h ho hv).tr (n:=0) (fun b hb=>hF b hb.1) (fun id len hlt=>by omega) (by simpa only [AV.wf] using hw)
theorem zf (h:RO D nu o w): ∀ {as bs:List AV} {xs:List Value},QD o as bs->as.length=xs.length->(∀(i:Nat) c x,as[i]? = some c->xs[i]? = some x->RA D nu o w c x) ->
  bp 0 bs=true∧bs.length=xs.length∧ ∀(i:Nat) c x,bs[i]? = some c->xs[i]? = some x->RA (fun _=>True) nu [] w c x
 | [],[],[],_,_,_=>⟨rfl,rfl,fun i c x h=>by simp at h⟩
 | a :: as,b :: bs,x :: xs,hv,hl,hr=>by
  obtain ⟨h1,h2⟩:=Ln h hv.1 (hr 0 a x rfl rfl);obtain ⟨h3,h4,h5⟩:=zf h hv.2 (by simpa using hl) (fun i c x q1 q2=>hr (i+1) c x (by simpa using q1) (by simpa using q2));refine ⟨by simp only [bp,h1,h3,Bool.and_self],by simpa using h4,fun i c y q1 q2=> ?_⟩
  cases i with
  | zero=>simp at q1 q2;subst q1;subst q2;exact h2
  | succ i=>exact h5 i c y (by simpa using q1) (by simpa using q2)
 | [],_ :: _,_,hv,_,_=>hv.elim
 | _ :: _,[],_,hv,_,_=>hv.elim
 | [],[],_ :: _,_,hl,_=>by simp at hl
 | _ :: _,_ :: _,[],_,hl,_=>by simp at hl
theorem Ab {f:FuncId} {args args':List AV} {r:AV} {vargs:Array Value} (hc:ah P f args' r) (hv:QD o args args') (hf:r.flat=true) (h:RO D nu o w) (ha:fE D nu o w args vargs) :
  Calls P f vargs w (fun e w'=> ∃v,e = .returned v∧Below w.heap.size w w'∧RA D nu o w' r v):=by
 obtain ⟨⟨h1,h2⟩,_,h3⟩:=hc;obtain ⟨k1,k2,k3⟩:=zf (xs:=vargs.toList) h hv (by simpa using ha.len) (fun i c x q1 q2=>ha.at' i c x q1 (by simpa using q2));refine (h3 (fun _=>True) nu w vargs (.nil _ _ _ (fun _ _=>trivial) (h.gl.nil (fun _ _ _=>trivial))) ⟨by simpa using k2,fun i c x q1 q2=>k3 i c x q1 (by simpa using q2)⟩).mono ?_;rintro e w' ⟨v,nu',o',r',rfl,hm,hro,hra,rfl,rfl⟩;exact ⟨v,rfl,fu hm,hra.flat hf⟩
def ab (P:Program) (f:FuncId) (args:List AV) (o:List (Option aa)) (K:AV->List (Option aa)->Prop):Prop:=
 (∃r,ah P f args r∧K r o)∨(∃args' r,QD o args args'∧r.flat=true∧ah P f args' r∧K r o)∨eV P f args o K
theorem ab.one {f:FuncId} {args:List AV} {r:AV} {K:AV->List (Option aa)->Prop} (h:ah P f args r) (k:K r o):ab P f args o K:= .inl ⟨r,h,k⟩
theorem ab.two {f:FuncId} {args:List AV} {K Q:AV->List (Option aa)->Prop} (h:eV P f args o Q) (k: ∀r o',Q r o'->K r o'):ab P f args o K:= .inr (.inr (h.mono k))
theorem zZ {f:FuncId} {args:List AV} {K:AV->List (Option aa)->Prop} {vargs:Array Value} (hc:ab P f args o K) (h:RO D nu o w) (ha:fE D nu o w args vargs):df P f=true∧Calls P f vargs w (Df D nu o w K):=by
 rcases hc with ⟨r,hc,hk⟩|⟨args',r,hv,hf,hc,hk⟩|hc
 ·refine ⟨hc.2.1,(jK hc h ha).mono ?_⟩;rintro e w' ⟨v,rfl,hb,hr⟩;exact ⟨v,nu,o,r,rfl,aw hb,h.below hb,hr,hk⟩
 ·refine ⟨hc.2.1,(Ab hc hv hf h ha).mono ?_⟩;rintro e w' ⟨v,rfl,hb,hr⟩;exact ⟨v,nu,o,r,rfl,aw hb,h.below hb,hr,hk⟩
 ·exact ⟨hc.1,hc.2 D nu w vargs h ha⟩
def AR (x:Option (Prop×AV×List (Option aa))) (K:AV->List (Option aa)->Prop):Prop:=match x with
 | some (p,r,o')=>p∧K r o'
 | none=>False
@[congr] theorem Ol {x y:Option (Prop×AV×List (Option aa))} {K:AV->List (Option aa)->Prop} (h:x=y):AR x K=AR y K:=by rw [h]
theorem Jd (p:Prop) (r:AV) (o':List (Option aa)) (K:AV->List (Option aa)->Prop):AR (some (p,r,o')) K=(p∧K r o'):=rfl
theorem Je (r:AV) (o':List (Option aa)) (K:AV->List (Option aa)->Prop):AR (some (True,r,o')) K=K r o':=by simp [AR]
@[congr] theorem I9 {f:FuncId} {args args':List AV} {K:AV->List (Option aa)->Prop} (h:args=args'):ab P f args o K=ab P f args' o K:=by rw [h]
def eJ (b:Bool) (A B:Prop):Prop:=if b then A else B
@[congr] theorem NK {b c:Bool} {A B:Prop} (h:b=c):eJ b A B=eJ c A B:=by rw [h]
theorem wV (A B:Prop):eJ true A B=A:=rfl
theorem tu (A B:Prop):eJ false A B=B:=rfl
theorem eJ.part {b:Bool} {A B:Prop} (h1:b=true->A) (h2:b=false->B):eJ b A B:=by cases b<;>simp_all [eJ]
def L5 (P:Program) (f:AV) (args:List AV) (o:List (Option aa)) (K:AV->List (Option aa)->Prop):Prop:=match f with
 | .fn g first caps=>ab P g (first++args++caps) o K
 | _=>False
@[congr] theorem NI {f f':AV} {args args':List AV} {K:AV->List (Option aa)->Prop} (h:f=f') (k:args=args'):L5 P f args o K=L5 P f' args' o K:=by rw [h,k]
theorem L8 (g:FuncId) (first caps args:List AV) (K:AV->List (Option aa)->Prop):L5 P (.fn g first caps) args o K=ab P g (first++args++caps) o K:=rfl
def wS (P:Program) (op:Op) (s:AS) (K:AV->List (Option aa)->Prop):Prop:=match op with
 | .pick c a b=>match s.ev c with
  | .v (.bool t)=>eJ t (K (s.ev a) s.o) (K (s.ev b) s.o)
  | _=>False
 | .call c=>match c.callee with
  | .value f=>L5 P (s.ev f) (c.args.toList.map s.ev) s.o K
  | _=>AR (Jy P s.ev s.o (.call c)) K
 | op=>AR (Jy P s.ev s.o op) K
theorem qJ {s:AS} {a:Act} {oo:Oper} {K:AV->List (Option aa)->Prop} {next:Act->World->Prop} {Q:Exit->Act->World->Prop} (h:RO D nu s.o w) (hev:I0 D nu s.o w s.ev a.eval oo.op) (hd:wS P oo.op s K)
  (hk: ∀v w' nu' r o',bt nu s.o w nu' o' w'->RO D nu' o' w'->RA D nu' o' w' r v->K r o'->next (a.put oo.dst v) w'):oo.wp P a w next Q:=by
 have hop: ∀op,oo.op=op->AR (Jy P s.ev s.o op) K->oo.wp P a w next Q:=by
  intro op ho hh;subst ho;unfold AR at hh
  split at hh
  ·rename_i p r o' e;obtain ⟨v,w',nu',h1,h2,h3,h4⟩:=xj (P:=P) h hev e hh.1
   have:=hk v w' nu' r o' h2 h3 h4 hh.2
   unfold Oper.wp
   rcases h1 with h1|⟨h1,rfl⟩
   ·rw [h1,Oper.upon_value];exact this
   ·rw [h1,Oper.upon_skip];exact this
  ·exact hh.elim
 unfold wS at hd
 split at hd
 ·rename_i c x y ho;have hc:=hev c (by rw [ho];simp [Op.operands])
  split at hd
  ·rename_i t e;rw [e] at hc;have hcv:=hc.b5;unfold Oper.wp
   have hrun:(execOp a.eval oo).run P w = .ok (.value (if t then a.eval x else a.eval y)) w:=by simp [execOp,ho,hcv,asBool]
   rw [hrun,Oper.upon_value]
   cases t
   ·exact hk _ w nu _ _ (.refl nu _ w) h (hev y (by rw [ho];simp [Op.operands])) hd
   ·exact hk _ w nu _ _ (.refl nu _ w) h (hev x (by rw [ho];simp [Op.operands])) hd
  ·exact hd.elim
 ·rename_i c ho
  split at hd
  ·rename_i f hc;unfold L5 at hd
   split at hd
   ·rename_i g first caps e
    have hf:=hev f (by rw [ho];simp [Op.operands,Call.operands,hc]);rw [e] at hf;generalize hq:a.eval f=vf at hf
    cases hf with
    | fn _ _ _ fi ca q1 q2 q3 q4=>
    have hargs: ∀x,x∈c.args.toList->RA D nu s.o w (s.ev x) (a.eval x):=fun x hx=>hev x (by rw [ho];simp only [Op.operands,Call.operands,hc];simp;exact .inr (by simpa using hx))
    have hra:fE D nu s.o w (first++c.args.toList.map s.ev++caps) (fi++c.args.map a.eval++ca):=by
     refine ⟨by simp [q1,q2],fun i cc x k1 k2=> ?_⟩;rw [List.append_assoc] at k1;rw [Array.append_assoc] at k2
     rcases U6 i first.length with l1|l1
     ·rw [U5 l1] at k1;rw [VE (by omega)] at k2;exact q3 i cc x k1 k2
     ·rw [Vy l1] at k1;rw [V1 (by omega)] at k2;rw [q1] at k1
      rcases U6 (i - fi.size) c.args.size with l2|l2
      ·rw [U5 (by simpa using l2),Vl] at k1;rw [VE (by simpa using l2),VZ] at k2
       have e2:c.args.toList[i - fi.size]? = c.args[i - fi.size]? :=by simp
       rw [e2] at k1
       cases hk2:c.args[i - fi.size]? with
       | none=>rw [hk2] at k1;cases k1
       | some y=>
        rw [hk2] at k1 k2;cases k1;cases k2;exact hargs y (VD (by rw [e2];exact hk2))
      ·rw [Vy (by simpa using l2)] at k1;rw [V1 (by simpa using l2)] at k2;simp only [VW,Array.length_toList,Array.size_map] at k1 k2;exact q4 _ cc x k1 k2
    obtain ⟨c1,c2⟩:=zZ (P:=P) hd h hra;unfold Oper.wp
    have hrun:(execOp a.eval oo).run P w = .ok (.enter g (fi++c.args.map a.eval++ca)) w:=by
     simp only [execOp,ho,resolve,hc,hq,Deferred.ofValue,Sem.run_bind,Sem.run_pure,Result.andThen_ok,invoke];exact gR c1 _ w
    rw [hrun,Oper.upon_enter];refine c2.mono ?_;rintro e w' ⟨v,nu',o',r,rfl,m1,m2,m3,m4⟩;exact hk v w' nu' r o' m1 m2 m3 m4
   ·exact hd.elim
  ·exact hop _ ho hd
 ·exact hop _ rfl hd
structure Fr where
 B:Nat
 r:Option Nat
 Z:Nat->Prop
def Fr.wz (f:Fr) (Z:Nat->Prop):Fr:=⟨f.B,f.r,Z⟩
def AN (x:Nat):Deferred:={ target:= .collected x,args:= #[] }
def rH:Obj->Bool
 | .deferred _=>true
 | .loop _=>true
 | _=>false
structure FR (f:Fr) (ds:List Deferred) (w:World):Prop where
 base:f.B<=w.heap.size
 marks: ∃rs:List Nat,rs.Nodup∧ds=rs.map AN∧ ∀x,x∈rs->f.B<=x∧f.Z x∧w.heap[x]? = some (.deferred (some []))
 loop: ∀l,f.r=some l-> ∃q,w.heap[l]? = some (.loop q)
theorem FR.keep {f:Fr} {ds:List Deferred} {w w':World} (h:FR f ds w) (hz:w.heap.size<=w'.heap.size) (hk: ∀(b:Nat) ob,f.Z b∨f.r=some b->w.heap[b]? = some ob->rH ob=true->w'.heap[b]? = some ob):FR f ds w':=by
 obtain ⟨rs,h1,h2,h3⟩:=h.marks
 refine ⟨Nat.le_trans h.base hz,⟨rs,h1,h2,fun x hx=> ?_⟩,fun l hl=> ?_⟩
 ·obtain ⟨q1,q2,q3⟩:=h3 x hx;exact ⟨q1,q2,hk x _ (.inl q2) q3 rfl⟩
 ·obtain ⟨q,hq⟩:=h.loop l hl;exact ⟨q,hk l _ (.inr hl) hq rfl⟩
theorem jZ {D:Nat->Prop} {nu:Nat->Nat->Value} {o:List (Option aa)} {w:World} (h:RO D nu o w) {b:Nat} {ob:Obj} (hb:w.heap[b]? = some ob) (hc:rH ob=true): ¬owned nu o b:=fun ⟨id,x,h1,h2⟩=>by
 rcases h.obj id x h1 with ⟨e1,e2,e3⟩|⟨g,cur,hr⟩|⟨g,es,cl,hmp⟩
 ·simp only [aa.hl,e1,e2,if_true,List.length_nil,e3,b9,dc] at h2;cases h2
 ·rw [hr.bg] at h2;cases h2;rw [hr.blk] at hb;cases hb;cases hc
 ·rw [hmp.bg] at h2;cases h2;rw [hmp.blk] at hb;cases hb;cases hc
theorem FR.mono {f:Fr} {ds:List Deferred} {D:Nat->Prop} {nu nu':Nat->Nat->Value} {o o':List (Option aa)} {w w':World} (h:FR f ds w) (hro:RO D nu o w) (hm:bt nu o w nu' o' w'):FR f ds w':=
 h.keep hm.size (fun b ob hd hb hc=>(hm.keep b (U2.1 hb).1 (jZ hro hb hc)).1.trans hb)
theorem FR.LW {f:Fr} {Z:Nat->Prop} {ds:List Deferred} {w:World} (h:FR f ds w) (hz: ∀b,f.Z b->Z b):FR (f.wz Z) ds w:=by
 obtain ⟨rs,h1,h2,h3⟩:=h.marks;exact ⟨h.base,⟨rs,h1,h2,fun x hx=>⟨(h3 x hx).1,hz x (h3 x hx).2.1,(h3 x hx).2.2⟩⟩,h.loop⟩
structure RS (f:Fr) (D:Nat->Prop) (nu:Nat->Nat->Value) (s:AS) (a:Act) (w:World):Prop where
 ro:RO D nu s.o w
 tm:fE D nu s.o w s.t a.tmps
 iB:FR f a.defers w
theorem RS.ev {s:AS} {a:Act} {f:Fr} (h:RS f D nu s a w) (x:Operand):RA D nu s.o w (s.ev x) (a.eval x):=by
 cases x with
 | tmp t=>
  simp only [AS.ev,Act.eval]
  rcases U6 t s.t.length with hlt|hge
  ·have e1:s.t[t]? = some s.t[t]:=Vi hlt;have hl:=h.tm.len
   have hlt':t<a.tmps.size:=by rw [<-hl];exact hlt
   have hx:a.tmps[t]? = some a.tmps[t]:=Vh hlt';rw [getD_some e1]
   have:a.tmps.getD t Go.undef=a.tmps[t]:=by simp [Array.getD,hlt']
   rw [this];exact h.tm.at' t _ _ e1 hx
  ·rw [VX,Vn hge];exact .undef _
 | const v=>exact .v v
 | global gi=>exact qj h.ro s gi
 | func f=>
  exact .fn f [] [] #[] #[] rfl rfl (fun i c x h=>by simp at h) (fun i c x h=>by simp at h)
theorem RS.put {s:AS} {a:Act} {f:Fr} (h:RS f D nu s a w) {w':World} {nu':Nat->Nat->Value} {o':List (Option aa)} {r:AV} {v:Value} (hm:bt nu s.o w nu' o' w') (hro:RO D nu' o' w') (hr:RA D nu' o' w' r v) (dst:Option Tmp) :
  RS f D nu' (s.put dst r o') (a.put dst v) w':=by
 have ht:=h.tm.mono hm (fun _ _ h=>h)
 refine ⟨hro, ?_, ?_⟩
 ·cases dst with
  | none=>exact ht
  | some d=>
   refine ⟨by simpa [AS.put,Act.put] using ht.len,fun i c x h1 h2=> ?_⟩;simp only [AS.put,Act.put] at h1 h2 ⊢
   by_cases hd:d=i
   ·subst hd;have hlt:=(U4.1 h1).1;simp only [List.length_set] at hlt;rw [Vq hlt] at h1;rw [Array.getElem?_setIfInBounds_self_of_lt (by have:=ht.len;omega)] at h2;cases h1;cases h2;exact hr
   ·rw [Vp hd] at h1;rw [Array.getElem?_setIfInBounds_ne hd] at h2;exact ht.at' i c x h1 h2
 ·have:=h.iB.mono h.ro hm
  cases dst<;>simpa [Act.put] using this
def jl (all:List Oper) (s:AS) (j:Nat):Option (Option Bool):=match all[j]? with
 | none=>some none
 | some o=>match o.dst with
  | none=>some none
  | some d=>match s.t[d]? with
   | none=>some none
   | some (.v (.bool b))=>some (some b)
   | some (.v (.tuple _))=>some none
   | _=>none
def sR (g:Option (Option Bool)) (want:Bool) (A B:Prop):Prop:=match g with
 | some (some b)=>eJ (b==want) A B
 | some none=>B
 | none=>False
@[congr] theorem NJ {g g':Option (Option Bool)} {want:Bool} {A B:Prop} (h:g=g'):sR g want A B=sR g' want A B:=by rw [h]
theorem Fo (b want:Bool) (A B:Prop):sR (some (some b)) want A B=eJ (b==want) A B:=rfl
theorem Fm (want:Bool) (A B:Prop):sR (some none) want A B=B:=rfl
theorem fa {all:List Oper} {s:AS} {a:Act} {j:Nat} {g:Option Bool} (htm: ∀d c x,(∃o,all[j]? = some o∧o.dst=some d)->s.t[d]? = some c->a.tmps[d]? = some x->RA D nu s.o w c x) (hlen:s.t.length=a.tmps.size) (h:jl all s j=some g):yielded all.toArray a.tmps j=g:=by
 unfold jl at h;unfold yielded;rw [Vk]
 split at h
 ·rename_i e;rw [e];cases h;rfl
 ·rename_i o e;rw [e];simp only [Option.bind_some]
  split at h
  ·rename_i e2;rw [e2];cases h;rfl
  ·rename_i d e2;rw [e2];simp only [Option.bind_some]
   split at h
   ·rename_i e3;cases h
    have:s.t.length<=d:=List.getElem?_eq_none_iff.1 e3
    rw [Array.getElem?_eq_none (by omega)]
   ·rename_i b e3;cases h;have hlt:=(U4.1 e3).1;have hx:a.tmps[d]? = some a.tmps[d]:=Vh (by omega)
    have:=(htm d _ _ ⟨o,e,e2⟩ e3 hx).b5
    rw [hx,this]
   ·rename_i vs e3;cases h;have hlt:=(U4.1 e3).1;have hx:a.tmps[d]? = some a.tmps[d]:=Vh (by omega)
    have:=(htm d _ _ ⟨o,e,e2⟩ e3 hx).b5
    rw [hx,this]
   ·cases h
def jc (A B:Prop):Prop:=A∧B
theorem jc.mk {A B:Prop} (h:A) (k:B):jc A B:=⟨h,k⟩
def oy (y:iW) (l:Nat) (args:List AV) (K:AV->iW->Prop):Prop:=match y with
 | .run l' (x :: rest)=>(l=l'∧args=x∧bp 0 x=true)∧jc (K (.v (.bool true)) (.run l' rest)) (K (.v (.bool false)) .off)
 | _=>False
@[congr] theorem Jf {y y':iW} {l l':Nat} {args args':List AV} {K:AV->iW->Prop} (h1:y=y') (h2:l=l') (h3:args=args'):oy y l args K=oy y' l' args' K:=by rw [h1,h2,h3]
theorem zy (l l':Nat) (args x:List AV) (rest:List (List AV)) (K:AV->iW->Prop):oy (.run l' (x :: rest)) l args K=((l=l'∧args=x∧bp 0 x=true)∧jc (K (.v (.bool true)) (.run l' rest)) (K (.v (.bool false)) .off)):=rfl
def Mb (P:Program) (fv:AV) (args:List AV) (dst:Option Tmp) (s:AS) (K:AS->Prop):Prop:=match fv with
 | .v (.func (.yield l) fi _)=>fi.size=0∧oy s.y l args (fun r y=>K ⟨(s.put dst r s.o).t,s.o,y⟩)
 | fv=>L5 P fv args s.o (fun r o'=>K (s.put dst r o'))
@[congr] theorem NO {fv fv':AV} {args args':List AV} {dst:Option Tmp} {s:AS} {K:AS->Prop} (h1:fv=fv') (h2:args=args'):Mb P fv args dst s K=Mb P fv' args' dst s K:=by rw [h1,h2]
theorem Mc (g:FuncId) (first caps args:List AV) (dst:Option Tmp) (s:AS) (K:AS->Prop):Mb P (.fn g first caps) args dst s K=ab P g (first++args++caps) s.o (fun r o'=>K (s.put dst r o')):=rfl
theorem On (l:Nat) (args:List AV) (dst:Option Tmp) (s:AS) (K:AS->Prop):Mb P (.v (.func (.yield l) #[] #[])) args dst s K=oy s.y l args (fun r y=>K ⟨(s.put dst r s.o).t,s.o,y⟩):=by simp [Mb]
def AY (P:Program) (op:Op) (dst:Option Tmp) (s:AS) (K:AS->Prop):Prop:=match op with
 | .call c=>match c.callee with
  | .value f=>Mb P (s.ev f) (c.args.toList.map s.ev) dst s K
  | _=>wS P op s (fun r o'=>K (s.put dst r o'))
 | _=>wS P op s (fun r o'=>K (s.put dst r o'))
def pz (P:Program) (all:List Oper) (oo:Oper) (s:AS) (K:AS->Prop):Prop:=match oo.guard with
 | none=>AY P oo.op oo.dst s K
 | some (j,want)=>sR (jl all s j) want (AY P oo.op oo.dst s K) (K (s.put oo.dst (.v Go.undef) s.o))
def gK (P:Program) (all:List Oper):List Oper->AS->(AS->Prop)->Prop
 | [],s,Q=>Q s
 | oo :: rest,s,Q=>pz P all oo s (fun s'=>gK P all rest s' Q)
@[congr] theorem Ma {all ops:List Oper} {s s':AS} {Q:AS->Prop} (h:s=s'):gK P all ops s Q=gK P all ops s' Q:=by rw [h]
section
variable {D':Nat->Prop} {w':World}
theorem RA.keep (hF: ∀b,Fz D nu o w b->w'.heap[b]? = w.heap[b]? ∧Fz D' nu o w' b) {a:AV} {x:Value} (hr:RA D nu o w a x):RA D' nu o w' a x:=by
 induction hr with
 | undef x=>exact .undef x
 | v x=>exact .v x
 | agg cs xs h1 _ h3 ih=>exact .agg cs xs h1 ih h3
 | cy cs xs h1 _ ih=>exact .cy cs xs h1 ih
 | br z=>exact .br z
 | bz z a=>exact .bz z a
 | aH z rows len b off cap f h1 h2 h3 h4 h5 h6 _ h8 ih=>
  refine .aH z rows len b off cap f h1 h2 h3 (fun hne=>(hF b (h4 hne)).2) h5 (fun i j row c hr hc=> ?_) ih h8
  have hne:rows≠[]:=fun e=>by subst e;simp at hr
  rw [World.cell?_of_block (w:=w) (hF b (h4 hne)).1];exact h6 i j row c hr hc
 | vp cs b off f h1 h2 _ h4 ih=>
  refine .vp cs b off f (hF b h1).2 (fun j c hc=> ?_) ih h4;rw [World.cell?_of_block (w:=w) (hF b h1).1];exact h2 j c hc
 | ptr id len z row off b h1 h2=>exact .ptr id len z row off b h1 h2
 | vec id len h1 h2=>exact .vec id len h1 h2
 | fn g first caps fi ca h1 h2 _ _ ih1 ih2=>exact .fn g first caps fi ca h1 h2 ih1 ih2
 | full a x h1 _ ih=>exact .full a x h1 ih
 | gu p a x S h0 h1 hc h2 _ ih=>exact .gu p a x S h0 (fun b hb=>(hF b (h1 b hb)).2) (fun b hb=>by rw [(hF b (h1 b hb)).1];exact hc b hb) (fun w2 hw=>h2 w2 (fun b hb=>(hw b hb).trans (hF b (h1 b hb)).1)) ih
 | mp rows b es cl h1 h2 h3 h4 h5 h6 _ ih=>exact .mp rows b es cl (hF b h1).2 ((hF b h1).1.trans h2) h3 h4 h5 h6 ih
theorem RO.jO (h:RO D nu o w) {b:Nat} (hb:owned nu o b):D b:=by
 obtain ⟨id,ob,h1,h2⟩:=hb
 rcases h.obj id ob h1 with ⟨e1,e2,e3⟩|⟨g,cur,hr⟩|⟨g,es,cl,hmp⟩
 ·simp only [aa.hl,e1,e2,if_true,List.length_nil,e3,b9,dc] at h2;cases h2
 ·rw [hr.bg] at h2;cases h2;exact hr.ko
 ·rw [hmp.bg] at h2;cases h2;exact hmp.ko
theorem RO.keep (h:RO D nu o w) (ho: ∀b,owned nu o b->w'.heap[b]? = w.heap[b]? ∧D' b) (hu: ∀b,w'.heap.size<=b->D' b) (hF: ∀b,Fz D nu o w b->w'.heap[b]? = w.heap[b]? ∧Fz D' nu o w' b):RO D' nu o w':=by
 refine ⟨fun id ob hid=> ?_,hu,h.sep,h.gl.fz hF⟩
 rcases h.obj id ob hid with e|⟨g,cur,hr⟩|⟨g,es,cl,hmp⟩
 ·exact .inl e
 ·have hown:owned nu o g:=⟨id,ob,hid,hr.bg⟩;exact .inr (.inl ⟨g,cur,(ho g hown).1.trans hr.blk,(ho g hown).2,hr.box,hr.vec,hr.z,hr.row,fun i j row c x q1 q2 q3=>(hr.cell i j row c x q1 q2 q3).keep hF,hr.one⟩)
 ·have hown:owned nu o g:=⟨id,ob,hid,hmp.bg⟩;exact .inr (.inr ⟨g,es,cl,hmp.tr (ho g hown).1 (fun _=>(ho g hown).2) rfl (fun i j row c x _ _ hr=>hr.keep hF)⟩)
end
structure BI (Z:Nat->Prop) (nu:Nat->Nat->Value) (o:List (Option aa)) (w:World) (nu':Nat->Nat->Value) (o':List (Option aa)) (w':World):Prop where
 os:w'.os=w.os
 tape:w'.tape=w.tape
 output:w'.output=w.output
 size:w.heap.size<=w'.heap.size
 p8: ∀id len,id<o'.length->c7 o id len->c7 o' id len∧nu' id len=nu id len
 keep: ∀b,b<w.heap.size-> ¬owned nu o b-> ¬Z b->w'.heap[b]? = w.heap[b]? ∧ ¬owned nu' o' b
theorem bt.UM {Z:Nat->Prop} {nu nu':Nat->Nat->Value} {o o':List (Option aa)} {w w':World} (h:bt nu o w nu' o' w'):BI Z nu o w nu' o' w':=⟨h.os,h.tape,h.output,h.size,fun id len _ hh=>h.p8 id len hh,fun b h1 h2 _=>h.keep b h1 h2⟩
structure WM (P:Program) where
 n0:Nat
 fix:Nat->Prop
 M:(Nat->Prop)->(Nat->Nat->Value)->List (Option aa)->(Nat->Prop)->iW->World->Prop
 step: ∀ {D D' nu o Z Z' y w nu' o' w'},M D nu o Z y w->RO D nu o w->BI Z nu o w nu' o' w'->RO D' nu' o' w'->(∀c v,RA D nu o w c v->c.wf o'.length=true->RA D' nu' o' w' c v)->(∀b,D' b->D b∨Z b)->(∀b,D b->D' b∨Z' b) ->
  (∀b,Z' b->b<w'.heap.size∧ ¬D' b∧(Z b∨owned nu o b∨w.heap.size<=b))->n0<=o'.length->M D' nu' o' Z' y w'
 mV: ∀ {D nu o Z y w},M D nu o Z y w->(∀b,Z b->b<w.heap.size∧ ¬D b)∧n0<=o.length∧ ∀b,fix b->b<w.heap.size∧ ¬Z b∧ ¬D b
 yield: ∀ {D nu o Z l x rest w} {vals:Array Value},M D nu o Z (.run l (x :: rest)) w->RO D nu o w->fE D nu o w x vals->bp 0 x=true ->
  YieldAt (WF none) 8 P l vals w (fun e w'=>(w'.os=w.os∧w'.tape=w.tape∧w'.output=w.output∧w.heap.size<=w'.heap.size∧ ∀b,b<w.heap.size->D b∨Z b∨owned nu o b∨fix b->w'.heap[b]? = w.heap[b]?) ∧
   ((e = .returned (.bool true)∧M (fun b=>D b∧ ¬(w.heap.size<=b∧b<w'.heap.size)) nu o Z (.run l rest) w')∨(e = .returned (.bool false)∧M (fun b=>D b∧ ¬(w.heap.size<=b∧b<w'.heap.size)) nu o Z .off w')))
theorem WM.own {P:Program} (m:WM P) {D:Nat->Prop} {nu nu':Nat->Nat->Value} {o o':List (Option aa)} {Z:Nat->Prop} {y:iW} {w w':World} (h:m.M D nu o Z y w) (hro:RO D nu o w) (hm:bt nu o w nu' o' w') (hro':RO D nu' o' w'):m.M D nu' o' Z y w':=by
 refine m.step h hro hm.UM hro' (fun c v hr _=>hr.mono hm (fun _ _ h=>h)) (fun _ h=> .inl h) (fun _ h=> .inl h) (fun b hb=>⟨Nat.lt_of_lt_of_le ((m.mV h).1 b hb).1 hm.size,((m.mV h).1 b hb).2, .inl hb⟩) ?_;have h2:=(m.mV h).2.1
 rcases Nat.eq_zero_or_pos o.length with q|q
 ·omega
 ·have e:=Vi (show o.length - 1<o.length by omega);obtain ⟨h1,_⟩:=hm.p8 (o.length - 1) 0 ⟨_,e,fun _ _=>Nat.zero_le _⟩
  have:=gd h1
  omega
theorem RS.others {f:Fr} {s:AS} {a:Act} {w':World} (h:RS f D nu s a w) (hz:w.heap.size<=w'.heap.size) (hk: ∀b,b<w.heap.size->D b∨owned nu s.o b∨f.r=some b∨f.Z b->w'.heap[b]? = w.heap[b]?) (y:iW):RS f (fun b=>D b∧ ¬(w.heap.size<=b∧b<w'.heap.size)) nu ⟨s.t,s.o,y⟩ a w':=by
 have hF: ∀b,Fz D nu s.o w b->w'.heap[b]? = w.heap[b]? ∧Fz (fun b=>D b∧ ¬(w.heap.size<=b∧b<w'.heap.size)) nu s.o w' b:=fun b hf=>⟨hk b hf.1 (.inl hf.2.2),Nat.lt_of_lt_of_le hf.1 hz,hf.2.1,hf.2.2,fun hh=>by have:=hf.1;omega⟩;refine ⟨h.ro.keep (fun b hb=>⟨hk b (h.ro.a6 hb) (.inr (.inl hb)),h.ro.jO hb,fun hh=>by have:=h.ro.a6 hb;omega⟩) (fun b hb=>⟨h.ro.up b (Nat.le_trans hz hb),fun hh=>by omega⟩) hF,⟨h.tm.len,fun i c x q1 q2=>(h.tm.at' i c x q1 q2).keep hF⟩,h.iB.keep hz (fun b ob hd hb _=> ?_)⟩;have hlt:=(U2.1 hb).1;exact (hk b hlt (.inr (.inr (Or.comm.1 hd)))).trans hb
theorem BW {f:Fr} (m:WM P) (hZr: ∀l,f.r=some l->m.fix l) {s:AS} {a:Act} {oo:Oper} {K:AS->Prop} {next:Act->World->Prop} {Q:Exit->Act->World->Prop} (hcalm: ∀c,oo.op ≠ .defer c) (hm:m.M D nu s.o f.Z s.y w) (hs:RS f D nu s a w) (hd:AY P oo.op oo.dst s K)
  (hk: ∀D' v w' nu' s',m.M D' nu' s'.o f.Z s'.y w'->RS f D' nu' s' (a.put oo.dst v) w'->K s'->next (a.put oo.dst v) w'):oo.wpIn (WF f.r) 9 P a w next Q:=by
 have plain:wS P oo.op s (fun r o'=>K (s.put oo.dst r o'))->oo.wpIn (WF f.r) 9 P a w next Q:=fun hd=>by
  have h:=qJ (P:=P) (next:=fun a' w'=>next a' w') (Q:=fun e a' w'=>e ≠ .outgrown∧Q e a' w') hs.ro (fun x _=>hs.ev x) hd (fun v w' nu' r o' m1 m2 m3 m4=>hk D v w' nu' (s.put oo.dst r o') (m.own hm hs.ro m1 m2) (hs.put m1 m2 m3 oo.dst) m4);refine ⟨fun f _=>trivial, ?_⟩;rw [Oper.semAt_eq _ _ oo hcalm];unfold Oper.wp at h;generalize (execOp a.eval oo).run P w=res at h;unfold Oper.upon at h;unfold Oper.uponIn
  split at h
  ·exact h
  ·exact h
  ·exact h
  ·refine ⟨fun e=>(by cases e),jL (h.mono fun e w' he=> ?_)⟩
   cases e with
   | returned v=>exact he
   | panicked ch=>exact he.2
   | outgrown=>obtain ⟨_,_,hh⟩:=he;exact absurd rfl hh.1
  ·exact ⟨fun e=>(by cases e),uz h⟩
  ·exact h.2
  ·exact h.elim
 unfold AY at hd
 split at hd
 ·rename_i c ho
  split at hd
  ·rename_i fo hc;unfold Mb at hd
   split at hd
   ·rename_i l fi ca e;have hf:=(hs.ev fo).LV e;obtain ⟨hfi,hd⟩:=hd;obtain rfl:fi = #[]:=Array.eq_empty_of_size_eq_zero hfi;unfold oy at hd
    split at hd
    ·rename_i l' x rest hy;obtain ⟨⟨rfl,hx,hw⟩,h1,h2⟩:=hd
     have hra:fE D nu s.o w x (c.args.map a.eval):=by
      rw [<-hx];refine ⟨by simp,fun i cc v k1 k2=> ?_⟩;rw [Vl] at k1;rw [VZ] at k2
      have e2:c.args.toList[i]? = c.args[i]? :=by simp
      rw [e2] at k1
      cases hk2:c.args[i]? with
      | none=>rw [hk2] at k1;cases k1
      | some z=>
       rw [hk2] at k1 k2;cases k1;cases k2;exact hs.ev z
     rw [hy] at hm;obtain ⟨fn,tmps,assign,body,hrun,hround⟩:=m.yield hm hs.ro hra hw;refine ⟨fun f _=>trivial, ?_⟩;rw [Oper.semAt_eq _ _ oo hcalm]
     have hrun':(execOp a.eval oo).run P w = .ok (.round l fn tmps assign body) w:=by
      simp only [execOp,ho,resolve,hc,hf,Deferred.ofValue,Sem.run_bind,Sem.run_pure,Result.andThen_ok,invoke];simpa using hrun
     rw [hrun'];refine ⟨fun e=>(by cases e),(EW hround).mono fun e w' he=> ?_⟩;obtain ⟨⟨_,_,_,hsz,hkeep⟩,m4⟩:=he
     have fin: ∀b y,m.M (fun b=>D b∧ ¬(w.heap.size<=b∧b<w'.heap.size)) nu s.o f.Z y w'->K ⟨(s.put oo.dst (.v (.bool b)) s.o).t,s.o,y⟩->next (a.put oo.dst (.bool b)) w':=fun b y hM hK=>by
      have h2:=hs.others hsz (fun b hb hh=>hkeep b hb (by rcases hh with h|h|h|h;exact .inl h;exact .inr (.inr (.inl h));exact .inr (.inr (.inr (hZr b h)));exact .inr (.inl h))) y;exact hk _ (.bool b) w' nu ⟨(s.put oo.dst (.v (.bool b)) s.o).t,s.o,y⟩ hM (h2.put (.refl nu s.o w') h2.ro (.v _) oo.dst) hK
     rcases m4 with ⟨rfl,hM⟩|⟨rfl,hM⟩
     ·exact fin true _ hM h1
     ·exact fin false _ hM h2
    ·exact hd.elim
   ·refine plain ?_;rw [ho];unfold wS;simp only [hc];exact hd
  ·exact plain hd
 ·exact plain hd
theorem jg {all:List Oper} {f:Fr} (m:WM P) (hZr: ∀l,f.r=some l->m.fix l) {Q:AS->Prop} {R:Exit->Act->World->Prop}: ∀(ops:List Oper) (s:AS) (a:Act) (w:World) (D:Nat->Prop) (nu:Nat->Nat->Value),(∀oo,oo∈ops-> ∀c,oo.op ≠ .defer c)->m.M D nu s.o f.Z s.y w->RS f D nu s a w->gK P all ops s Q ->
  (∀D' s' a' w' nu',m.M D' nu' s'.o f.Z s'.y w'->RS f D' nu' s' a' w'->Q s'->R .normal a' w')->wpListIn (WF f.r) 9 P all.toArray R ops a w
 | [],s,a,w,D,nu,_,hm,hs,hq,hR=>hR D s a w nu hm hs hq
 | oo :: rest,s,a,w,D,nu,hcalm,hm,hs,hq,hR=>by
  have hrun:AY P oo.op oo.dst s (fun s'=>gK P all rest s' Q)->oo.wpIn (WF f.r) 9 P a w (wpListIn (WF f.r) 9 P all.toArray R rest) R:=fun hd=>
   BW m hZr (hcalm oo List.mem_cons_self) hm hs hd (fun D' v w' nu' s' m1 m2 m3=>jg m hZr rest s' _ w' D' nu' (fun o ho=>hcalm o (V2 _ ho)) m1 m2 m3 hR)
  have hskip:gK P all rest (s.put oo.dst (.v Go.undef) s.o) Q->wpListIn (WF f.r) 9 P all.toArray R rest (a.put oo.dst Go.undef) w:=fun hd=>
   jg m hZr rest _ _ w D nu (fun o ho=>hcalm o (V2 _ ho)) (by simpa only [AS.put] using hm) (hs.put (.refl nu s.o w) hs.ro (.v _) oo.dst) hd hR
  simp only [gK,pz] at hq;simp only [wpListIn]
  split at hq
  ·rename_i hg
   have:Region.wanted oo (yielded all.toArray a.tmps)=true:=by simp [Region.wanted,hg]
   rw [if_pos this];exact hrun hq
  ·rename_i j want hg;unfold sR at hq
   split at hq
   ·rename_i b e;have hy:=fa (w:=w) (fun d c x _ h1 h2=>hs.tm.at' d c x h1 h2) hs.tm.len e
    have hw:Region.wanted oo (yielded all.toArray a.tmps)=(b==want):=by simp [Region.wanted,hg,hy]
    rw [hw]
    cases hb:b==want
    ·rw [hb] at hq;simp only [Bool.false_eq_true,if_false];exact ⟨fun f _=>trivial,hskip hq⟩
    ·rw [hb] at hq;simp only [if_true];exact hrun hq
   ·rename_i e;have hy:=fa (w:=w) (fun d c x _ h1 h2=>hs.tm.at' d c x h1 h2) hs.tm.len e
    have hw:Region.wanted oo (yielded all.toArray a.tmps)=false:=by simp [Region.wanted,hg,hy]
    rw [hw];simp only [Bool.false_eq_true,if_false];exact ⟨fun f _=>trivial,hskip hq⟩
   ·exact hq.elim
end
end
section
def BL (P:Program) (T:TypeId) (o:List (Option aa)) (a b:AV):Option (Prop×AV):=
 match gF P T,a with
 | some (_,z,bytes), .full (.aH z' rows len)=>match mv o z b with
  | some (p,rows2)=>some (z'=z∧p∧(len+rows2.length) * bytes<=70368744177664∧len+rows2.length<=70368744177664, .aH z (rows.take len++rows2) (len+rows2.length))
  | none=>none
 | some (_,z,bytes), .v (.slice none 0 0)=>match mv o z b with
  | some (p,rows2)=>some (p∧rows2.length * bytes<=70368744177664∧rows2.length<=70368744177664, .aH z rows2 rows2.length)
  | none=>none
 | _,_=>none
def zF (P:Program) (ev:Operand->AV) (o:List (Option aa)):List Operand->List TypeId->Option (Prop×AV)
 | [x,y],[T,T']=>if T=T' then BL P T o (ev x) (ev y).st else none
 | _,_=>none
def Du (P:Program) (ev:Operand->AV) (o:List (Option aa)) (op:Op):Option (Prop×AV):=match op with
 | .buildSlice T len parts=>match e7 P T len [] (parts.toList.map fun p=>(p.1,ev p.2)) with
  | some (_,[some ob])=>some (True, .aH ob.z ob.rows len)
  | _=>none
 | .box _ x=>match (ev x).cells? with
  | some cs=>some (True, .vp cs)
  | none=>none
 | .slice T x lo hi mx=>match (ev x).st with
  | .vec _ _=>none
  | a=>match mr P T o a (lo.map ev) (hi.map ev) (mx.map ev) with
   | some (p,r,_)=>some (p,r)
   | none=>none
 | .call c=>match c.callee with
  | .builtin .append=>zF P ev o c.args.toList c.argTypes.toList
  | _=>xi P ev o (.call c)
 | op=>xi P ev o op
section
variable {D:Nat->Prop} {nu:Nat->Nat->Value} {o:List (Option aa)} {w:World} {P:Program}
theorem An (h:RO D nu o w) (ob:Obj):Fz D nu o (w.alloc ob) w.heap.size:=⟨by simp,fun ho=>by have:=h.a6 ho;omega,h.up _ (UZ _)⟩
theorem gN (w:World) (ob:Obj):Below w.heap.size w (w.alloc ob):=(Below.refl _ _).alloc (UZ _) _
theorem RA.RX {z len:Nat} {rows:List (List AV)} {v:Value} (h:RA D nu o w (.aH z rows len) v):RA D nu o w (.aH z (rows.take len) len) v:=by
 cases h with
 | br=>simpa using RA.br z
 | bz _ a=>simpa using RA.bz z a
 | aH _ _ _ b off cap f h1 h2 h3 h4 h5 h6 h7 h8=>
  have hg: ∀(i:Nat) row,(rows.take len)[i]? = some row->rows[i]? = some row:=fun i row hi=>by
   rw [List.getElem?_take] at hi
   split at hi
   ·exact hi
   ·cases hi
  exact .aH z _ len b off cap f (by simp;omega) (by simp;omega) h3 (fun hne=>h4 (fun e=>hne (by rw [e];simp))) (fun i row hi=>h5 i row (hg i row hi)) (fun i j row c hi=>h6 i j row c (hg i row hi)) (fun i j row c hi=>h7 i j row c (hg i row hi)) (fun i j row c hi=>h8 i j row c (hg i row hi))
theorem zG {T:TypeId} (ty:TypeId) (h:RO D nu o w) {a b:AV} {x y:Value} (hr:RA D nu o w a x) (hs:RA D nu o w b y) {p:Prop} {r:AV} (hl:BL P T o a b=some (p,r)) (hp:p) :
  ∃v w',(Builtin.append_ #[T,T] ty #[x,y]).run P w = .ok v w'∧Below w.heap.size w w'∧RA D nu o w' r v:=by
 have main: ∀(e:TypeId) (z bytes:Nat) (rows:List (List AV)) (len:Nat) (p':Prop) (rows2:List (List AV)),gF P T=some (e,z,bytes)->RA D nu o w (.full (.aH z rows len)) x->mv o z b=some (p',rows2)->p'->(len+rows2.length) * bytes<=70368744177664->len+rows2.length<=70368744177664 ->
   ∃v w',(Builtin.append_ #[T,T] ty #[x,y]).run P w = .ok v w'∧Below w.heap.size w w'∧RA D nu o w' (.aH z (rows.take len++rows2) (len+rows2.length)) v:=by
  intro e z bytes rows len p' rows2 ht hr e2 hp' hby h63;obtain ⟨hu,i,zv,hi,_,_,hz0,_,_⟩:=fg ht
  by_cases hne:rows2=[]
  ·subst hne
   have hx:RA D nu o w (.aH z (rows.take len++[]) (len+([]:List (List AV)).length)) x:=by
    simp only [List.append_nil,List.length_nil,Nat.add_zero]
    cases hr with
    | full _ _ _ h2=>exact h2.RX
   refine ⟨x,w, ?_, .refl _ _,hx⟩
   cases hr with
   | full _ _ h1 h2=>
   obtain ⟨ad,n,rfl⟩:=h1
   have hy: ∃q c,y = .slice q 0 c:=by
    rcases iu h hz0 hs e2 hp' with ⟨rfl,_⟩|⟨g,c,news,rfl,_⟩
    ·exact ⟨_,_,rfl⟩
    ·exact ⟨_,_,rfl⟩
   obtain ⟨q,c,rfl⟩:=hy;cases ad<;>cases q<;>simp [Builtin.append_,run_underlying hu,sizeOf,typeInfo,hi,Builtin.lenOf,Builtin.firstCells,loadCells,loadCellsFrom,storeCells]
  ·obtain ⟨cap,cur,hrun,hg,hlr,hc1,hc2,hcs⟩:=yK ty ht h hr hs e2 hp' hne hby h63;refine ⟨_,_,hrun,((Below.refl _ w).drew).alloc (UZ _) _, ?_⟩;have hb:Below w.heap.size w w.drew:=(Below.refl _ _).drew;have hb':Below w.heap.size w (w.drew.alloc (.cells cur e)):=hb.alloc (UZ _) _
   have hget: ∀(i j:Nat) row c,(rows.take len++rows2)[i]? = some row->row[j]? = some c->cur[i * z+j]? = some (cur.getD (i * z+j) Go.undef):=fun i j row c k1 k2=>by
    obtain ⟨x,q1,_⟩:=hg.cell i j row c k1 k2
    have:=(U2.1 q1).1
    simp [Array.getD,this]
   have hfz:Fz D nu o (w.drew.alloc (.cells cur e)) w.heap.size:=An (h.below hb) _
   refine .aH z _ _ _ 0 cap (fun i j=>cur.getD (i * z+j) Go.undef) (by omega) (by omega) hc2 (fun _=>hfz) hg.row (fun i j row c k1 k2=> ?_) (fun i j row c k1 k2=> ?_) (fun i j row c k1 k2=> ?_)
   ·rw [<-hget i j row c k1 k2,VR];exact cell_of_row _ _ _ _ _ _ (heap_alloc_new w.drew _)
   ·obtain ⟨x,q1,q2,_⟩:=hg.cell i j row c k1 k2
    have:=hget i j row c k1 k2
    rw [q1] at this;rw [<-UY this];exact q2.mono (aw hb') (fun _ _ h=>h)
   ·obtain ⟨x,q1,_,q3⟩:=hg.cell i j row c k1 k2
    have:=hget i j row c k1 k2
    rw [q1] at this;rw [<-UY this];exact q3
 unfold BL at hl
 split at hl
 ·rename_i e z bytes z' rows len ht
  split at hl
  ·rename_i p' rows2 e2;cases hl;obtain ⟨rfl,hp',hby,h63⟩:=hp;exact main e z' bytes rows len p' rows2 ht hr e2 hp' hby h63
  ·cases hl
 ·rename_i e z bytes ht
  split at hl
  ·rename_i p' rows2 e2;cases hl;obtain ⟨hp',hby,h63⟩:=hp
   have hr':RA D nu o w (.full (.aH z [] 0)) x:=by
    obtain rfl:=hr.b5;exact .full _ _ ⟨_,_,rfl⟩ (.br z)
   have:=main e z bytes [] 0 p' rows2 ht hr' e2 hp' (by simpa using hby) (by simpa using h63)
   simpa using this
  ·cases hl
 ·cases hl
theorem Dv {ev:Operand->AV} {rho:Operand->Value} {oo:Oper} (h:RO D nu o w) (hev:I0 D nu o w ev rho oo.op) {p:Prop} {r:AV} (ha:Du P ev o oo.op=some (p,r)) (hp:p) :
  ∃v w',(execOp rho oo).run P w = .ok (.value v) w'∧Below w.heap.size w w'∧RA D nu o w' r v:=by
 unfold Du at ha
 split at ha
 ·rename_i T len parts hop
  split at ha
  ·rename_i r' ob hb;cases ha
   obtain ⟨e,z,rows,ys,_,h2,h3,hz0,hlm,hys,hg,hrun⟩:=Ii (D:=D) (nu:=nu) (o:=o) (w:=w) (P:=P) (vs:=parts.map fun (i,x)=>(i,rho x)) (by simp) (fun k p q a b=>by
    rw [Vl] at a;rw [Array.getElem?_map] at b
    have e:parts.toList[k]? = parts[k]? :=by simp
    rw [e] at a
    cases hk:parts[k]? with
    | none=>rw [hk] at a;cases a
    | some pr=>
     rw [hk] at a b;cases a;cases b
     exact ⟨rfl,hev pr.2 (by
      rw [hop];simp only [Op.operands]
      have:pr∈parts.toList:=VD (by rw [e];exact hk)
      simpa using ⟨pr.1,by simpa using this⟩)⟩) hb
   simp only [List.nil_append,List.cons.injEq,Ve,and_true] at h2;subst h2
   have hrun':((do pure (Next.value (<-Instr.buildSlice T len (parts.map fun (i,x)=>(i,rho x)))):Sem Next)).run P w = .ok (.value (.slice (some ⟨w.heap.size,0,none⟩) len len)) (w.alloc (.cells ys e)):=by rw [Sem.run_bind,hrun];rfl
   refine ⟨_,_,by simpa only [execOp,hop] using hrun',gN _ _, ?_⟩
   have hget: ∀(i j:Nat) row c,rows[i]? = some row->row[j]? = some c->ys[i * z+j]? = some (ys.getD (i * z+j) Go.undef):=fun i j row c k1 k2=>by
    obtain ⟨x,q1,_⟩:=hg.cell i j row c k1 k2
    have:=(U2.1 q1).1
    simp [Array.getD,this]
   refine .aH z rows len _ 0 len (fun i j=>ys.getD (i * z+j) Go.undef) (by omega) (by omega) (by unfold maxLen;omega) (fun _=>An h _) hg.row (fun i j row c k1 k2=> ?_) (fun i j row c k1 k2=> ?_) (fun i j row c k1 k2=> ?_)
   ·rw [<-hget i j row c k1 k2,VR];exact cell_of_row _ _ _ _ _ _ (heap_alloc_new w _)
   ·obtain ⟨x,q1,q2,_⟩:=hg.cell i j row c k1 k2
    have:=hget i j row c k1 k2
    rw [q1] at this;rw [<-UY this];exact q2.mono (aw (gN w _)) (fun _ _ h=>h)
   ·obtain ⟨x,q1,_,q3⟩:=hg.cell i j row c k1 k2
    have:=hget i j row c k1 k2
    rw [q1] at this;rw [<-UY this];exact q3
  ·cases ha
 ·rename_i T x hop;have hx:=hev x (by rw [hop];simp [Op.operands])
  split at ha
  ·rename_i cs hc;cases ha;have hcs:=hx.one hc;refine ⟨.pointer (some ⟨w.heap.size,0,none⟩),w.alloc (.cells (rho x).cells T),by simp [execOp,hop,Instr.box,newVar,newRow],gN _ _, ?_⟩
   have hget: ∀(j:Nat) c,cs[j]? = some c->(rho x).cells[j]? = some ((rho x).cells.getD j Go.undef):=fun j c k=>by
    have:=(U4.1 k).1
    have hl:=hcs.len;simp [Array.getD,show j<(rho x).cells.size by omega]
   refine .vp cs _ 0 (fun j=>(rho x).cells.getD j Go.undef) (An h _) (fun j c k=> ?_) (fun j c k=> ?_) (fun j c k=> ?_)
   ·rw [<-hget j c k,VR];exact cell_of_row _ _ _ _ _ _ (heap_alloc_new w _)
   ·exact (hcs.at' j c _ k (hget j c k)).mono (aw (gN w _)) (fun _ _ h=>h)
   ·exact hcs.one j _ (hget j c k)
  ·cases ha
 ·rename_i T x lo hi mx hop
  split at ha
  ·cases ha
  ·rename_i hne
   split at ha
   ·rename_i p' r' o' hb;cases ha;obtain ⟨v,h1,h2,_⟩:=sA (P:=P) (hev x (by rw [hop];simp [Op.operands])).st (jo (rho:=rho) (fun y hy=>hev y (by rw [hop,hy];simp [Op.operands]))) (jo (rho:=rho) (fun y hy=>hev y (by rw [hop,hy];simp [Op.operands]))) (jo (rho:=rho) (fun y hy=>hev y (by rw [hop,hy];simp [Op.operands]))) hb hp (fun id len e=>hne id len e);refine ⟨v,w, ?_, .refl _ _,h2⟩;simp only [execOp,hop,Sem.run_bind,h1,Result.andThen_ok,Sem.run_pure]
   ·cases ha
 ·rename_i c hop
  split at ha
  ·rename_i hc;have hops: ∀x,x∈c.args.toList->RA D nu o w (ev x) (rho x):=fun x hx=>hev x (by rw [hop];simp only [Op.operands,Call.operands,hc];simpa using hx);obtain ⟨callee,args,argTypes⟩:=c;simp only at hc ha hops;subst hc;obtain ⟨args⟩:=args;obtain ⟨argTypes⟩:=argTypes;simp only at ha hops;unfold zF at ha
   split at ha
   ·rename_i x y T T'
    split at ha
    ·rename_i hT;subst hT;obtain ⟨v,w',h1,h2,h3⟩:=zG (P:=P) oo.type h (hops x (by simp)) (hops y (by simp)).st ha hp;exact ⟨v,w',by simp [execOp,hop,resolve,invoke,builtin,h1],h2,h3⟩
    ·cases ha
   ·cases ha
  ·obtain ⟨v,h1,h2⟩:=jf (P:=P) h hev (by rw [hop];exact ha) hp;exact ⟨v,w,h1, .refl _ _,h2⟩
 ·obtain ⟨v,h1,h2⟩:=jf (P:=P) h hev ha hp;exact ⟨v,w,h1, .refl _ _,h2⟩
def BC (x:Option (Prop×AV)) (K:AV->Prop):Prop:=match x with
 | some (p,r)=>p∧K r
 | none=>False
@[congr] theorem NM {x y:Option (Prop×AV)} {K:AV->Prop} (h:x=y):BC x K=BC y K:=by rw [h]
theorem Fs (p:Prop) (r:AV) (K:AV->Prop):BC (some (p,r)) K=(p∧K r):=rfl
theorem Ft (r:AV) (K:AV->Prop):BC (some (True,r)) K=K r:=by simp [BC]
mutual
def fK (o:List (Option aa)):Nat->AV->Option (Prop×AV)
 | 0,_=>none
 | _+1, .vec id len=>match o[id]? with
  | some (some ob)=>some (ob.du=true∧ob.rows.length=len∧bZ 0 ob.rows=true, .aH ob.z ob.rows len)
  | _=>none
 | n+1, .ptr id len z row off=>match o[id]? with
  | some (some ob)=>match fj o n (ob.rows.getD row []) with
   | some (p,cs)=>some (p∧ob.hl=len∧ob.z=z∧row<ob.rows.length, .vp (cs.drop off))
   | none=>none
  | _=>none
 | n+1, .agg cs=>match fj o n cs with
  | some (p,cs')=>some (p, .agg cs')
  | none=>none
 | n+1, .fn g fi ca=>match fj o n fi,fj o n ca with
  | some (p,fi'),some (q,ca')=>some (p∧q, .fn g fi' ca')
  | _,_=>none
 | n+1, .cy cs=>match fj o n cs with
  | some (p,cs')=>some (p, .cy cs')
  | none=>none
 | n+1, .full b=>match fK o n b with
  | some (p,b')=>some (p, .full b')
  | none=>none
 | n+1, .gu q b=>match fK o n b with
  | some (p,b')=>some (p, .gu q b')
  | none=>none
 | _+1,a=>some (a.wf 0=true,a)
def fj (o:List (Option aa)):Nat->List AV->Option (Prop×List AV)
 | 0,_=>none
 | _+1,[]=>some (True,[])
 | n+1,a :: l=>match fK o n a,fj o n l with
  | some (p,b),some (q,m)=>some (p∧q,b :: m)
  | _,_=>none
end
theorem jj (h:RO D nu o w): ∀(n:Nat),(∀(a:AV) (x:Value) (p:Prop) (r:AV),fK o n a=some (p,r)->p->RA D nu o w a x->RA D nu [] w r x) ∧
  (∀(l:List AV) (p:Prop) (m:List AV),fj o n l=some (p,m)->p->l.length=m.length∧ ∀(i:Nat) a b x,l[i]? = some a->m[i]? = some b->RA D nu o w a x->RA D nu [] w b x)
 | 0=>⟨fun a x p r he=>by simp [fK] at he,fun l p m he=>by simp [fj] at he⟩
 | n+1=>by
  have hF: ∀id ob g cur,o[id]? = some (some ob)->sO D nu o w id ob g cur->Fz D nu [] w g:=fun id ob g cur _ hb=>⟨(U2.1 hb.blk).1,bd _ _,hb.ko⟩;have hFz: ∀b,Fz D nu o w b->Fz D nu [] w b:=fun b hb=>⟨hb.1,bd _ _,hb.2.2⟩;obtain ⟨ih1,ih2⟩:=jj h n;have cl: ∀(a:AV) (x:Value),a.wf 0=true->RA D nu o w a x->RA D nu [] w a x:=fun a x ha hr=>hr.tr (n:=0) hFz (fun id len hlt=>by omega) ha
  constructor
  ·intro a x p r he hp hr
   cases a with
   | vec id len=>
    simp only [fK] at he
    split at he
    ·rename_i ob ho;cases he;obtain ⟨hv,rfl,hw⟩:=hp;cases hr;exact (kf h ho hv).tr (n:=0) (fun b hb=>⟨hb.1,bd _ _,hb.2.2⟩) (fun id len hlt=>by omega) (by simpa only [AV.wf] using hw)
    ·cases he
   | ptr id len z row off=>
    simp only [fK] at he
    split at he
    ·rename_i ob ho
     split at he
     ·rename_i q cs e;cases he;obtain ⟨hq,rfl,rfl,hlt⟩:=hp;obtain ⟨hl,hall⟩:=ih2 _ _ _ e hq
      cases hr with
      | ptr _ _ _ _ _ b h1 h2=>
      rcases h.obj id ob ho with ⟨e1,e2,e3⟩|⟨g,cur,hb⟩|⟨g,es,cl,hmp⟩
      rotate_left 2
      ·exact absurd h2 (hmp.Hl (UZ _))
      ·rw [e2] at hlt;simp at hlt
      ·rw [hb.nj] at h2;cases h2;have hrow:ob.rows[row]? = some ob.rows[row]:=Vi hlt;rw [getD_some hrow] at hl hall
       have hget: ∀(j:Nat) c,cs[j]? = some c-> ∃c0,ob.rows[row][j]? = some c0∧cur[row * ob.z+j]? = some (cur.getD (row * ob.z+j) Go.undef):=fun j c hc=>by
        have hj:j<ob.rows[row].length:=by rw [hl];exact (U4.1 hc).1
        have:=hb.nt hrow hj
        exact ⟨_,Vi hj,by simp [Array.getD,this]⟩
       refine .vp _ b _ (fun j=>cur.getD (row * ob.z+(off+j)) Go.undef) (hF id ob b cur ho hb) (fun j c hc=> ?_) (fun j c hc=> ?_) (fun j c hc=> ?_)
       ·rw [Vg] at hc;obtain ⟨c0,k1,k2⟩:=hget _ c hc;rw [<-k2,show row * ob.z+off+j=row * ob.z+(off+j) by omega];exact cell_of_row _ _ _ _ _ _ hb.blk
       ·rw [Vg] at hc;obtain ⟨c0,k1,k2⟩:=hget _ c hc;exact hall _ c0 c _ k1 hc (hb.cell row _ _ c0 _ hrow k1 k2)
       ·rw [Vg] at hc;obtain ⟨c0,k1,k2⟩:=hget _ c hc;exact hb.one row _ _ c0 _ hrow k1 k2
     ·cases he
    ·cases he
   | agg cs=>
    simp only [fK] at he
    split at he
    ·rename_i q cs' e;cases he;obtain ⟨hl,hall⟩:=ih2 _ _ _ e hp
     cases hr with
     | agg _ xs h1 h2 h3=>
      refine .agg _ _ (by omega) (fun i c x q1 q2=> ?_) h3
      have hi:i<cs.length:=by rw [hl];exact (U4.1 q1).1
      exact hall i _ c x (Vi hi) q1 (h2 i _ x (Vi hi) q2)
    ·cases he
   | cy cs=>
    simp only [fK] at he
    split at he
    ·rename_i q cs' e;cases he;obtain ⟨hl,hall⟩:=ih2 _ _ _ e hp
     cases hr with
     | cy _ xs h1 h2=>
      refine .cy _ _ (by omega) (fun i c x q1 q2=> ?_)
      have hi:i<cs.length:=by rw [hl];exact (U4.1 q1).1
      exact hall i _ c x (Vi hi) q1 (h2 i _ x (Vi hi) q2)
    ·cases he
   | full b=>
    simp only [fK] at he
    split at he
    ·rename_i q b' e;cases he
     cases hr with
     | full _ _ h1 h2=>exact .full _ _ h1 (ih1 _ _ _ _ e hp h2)
    ·cases he
   | gu q b=>
    simp only [fK] at he
    split at he
    ·rename_i q' b' e;cases he
     cases hr with
     | gu _ _ _ S h0 h1 hc h2 h3=>exact .gu _ _ _ S h0 (fun b hb=>hFz b (h1 b hb)) hc h2 (ih1 _ _ _ _ e hp h3)
    ·cases he
   | fn g fi ca=>
    simp only [fK] at he
    split at he
    ·rename_i q fi' q' ca' e1 e2;cases he;obtain ⟨hl1,hall1⟩:=ih2 _ _ _ e1 hp.1;obtain ⟨hl2,hall2⟩:=ih2 _ _ _ e2 hp.2
     cases hr with
     | fn _ _ _ xf xc h1 h2 h3 h4=>
      refine .fn _ _ _ _ _ (by omega) (by omega) (fun i c x q1 q2=> ?_) (fun i c x q1 q2=> ?_)
      ·have hi:i<fi.length:=by rw [hl1];exact (U4.1 q1).1
       exact hall1 i _ c x (Vi hi) q1 (h3 i _ x (Vi hi) q2)
      ·have hi:i<ca.length:=by rw [hl2];exact (U4.1 q1).1
       exact hall2 i _ c x (Vi hi) q1 (h4 i _ x (Vi hi) q2)
    ·cases he
   | _=>simp only [fK,Ve,Vf] at he;obtain ⟨rfl,rfl⟩:=he;exact cl _ x hp hr
  ·intro l p m he hp
   cases l with
   | nil=>
    simp only [fj,Ve,Vf] at he;obtain ⟨rfl,rfl⟩:=he;exact ⟨rfl,fun i a b x h=>by simp at h⟩
   | cons a l=>
    simp only [fj] at he
    split at he
    ·rename_i q b q' m' e1 e2;cases he;obtain ⟨h1,h2⟩:=ih2 _ _ _ e2 hp.2;refine ⟨by simp [h1],fun i a' b' x k1 k2 hr=> ?_⟩
     cases i with
     | zero=>simp at k1 k2;subst k1;subst k2;exact ih1 _ x _ _ e1 hp.1 hr
     | succ i=>exact h2 i a' b' x (by simpa using k1) (by simpa using k2) hr
    ·cases he
theorem Aa {f:FuncId} {args args':List AV} {r:AV} {vargs:Array Value} (hc:ah P f args' r) {n:Nat} {p:Prop} (hz:fj o n args=some (p,args')) (hp:p) (hf:r.flat=true) (h:RO D nu o w) (ha:fE D nu o w args vargs) :
  Calls P f vargs w (fun e w'=> ∃v,e = .returned v∧Below w.heap.size w w'∧RA D nu o w' r v):=by
 obtain ⟨hl,hall⟩:=(jj h n).2 _ _ _ hz hp
 refine (hc.2.2 (fun _=>True) nu w vargs (.nil _ _ _ (fun _ _=>trivial) (h.gl.nil (fun _ _ _=>trivial))) ⟨by rw [<-hl];exact ha.len,fun i c x q1 q2=> ?_⟩).mono ?_
 ·have hi:i<args.length:=by rw [hl];exact (U4.1 q1).1
  exact (hall i _ c x (Vi hi) q1 (ha.at' i _ x (Vi hi) q2)).mono (.refl _ _ _) (fun _ _ _=>trivial)
 ·rintro e w' ⟨v,nu',o',r',rfl,hm,hro,hra,rfl,rfl⟩;exact ⟨v,rfl,fu hm,hra.flat hf⟩
def Oq (P:Program) (f:FuncId) (args:List AV) (o:List (Option aa)) (r:AV):Prop:=df P f=true∧ ∀D nu w vargs,RO D nu o w->fE D nu o w args vargs->Calls P f vargs w (fun e w'=> ∃v,e = .returned v∧Below w.heap.size w w'∧RA D nu o w' r v)
def bf (P:Program) (f:FuncId) (args:List AV) (o:List (Option aa)) (K:AV->Prop):Prop:= ∃r,Oq P f args o r∧K r
@[congr] theorem I8 {f:FuncId} {args args':List AV} {K:AV->Prop} (h:args=args'):bf P f args o K=bf P f args' o K:=by rw [h]
theorem bf.one {f:FuncId} {args:List AV} {r:AV} {K:AV->Prop} (h:ah P f args r) (k:K r):bf P f args o K:=⟨r,⟨h.2.1,fun _ _ _ _ h1 h2=>jK h h1 h2⟩,k⟩
theorem bf.Ff {f:FuncId} {args args':List AV} {r:AV} {K:AV->Prop} (h:ah P f args' r) (n:Nat) {p:Prop} (hz:fj o n args=some (p,args')) (hp:p) (hf:r.flat=true) (k:K r):bf P f args o K:=⟨r,⟨h.2.1,fun _ _ _ _ h1 h2=>Aa h hz hp hf h1 h2⟩,k⟩
def zu (P:Program) (f:AV) (args:List AV) (o:List (Option aa)) (K:AV->Prop):Prop:=match f with
 | .fn g first caps=>bf P g (first++args++caps) o K
 | _=>False
@[congr] theorem L7 {f f':AV} {args args':List AV} {K:AV->Prop} (h:f=f') (k:args=args'):zu P f args o K=zu P f' args' o K:=by rw [h,k]
theorem Jb (g:FuncId) (first caps args:List AV) (K:AV->Prop):zu P (.fn g first caps) args o K=bf P g (first++args++caps) o K:=rfl
def db (P:Program) (op:Op) (s:AS) (K:AV->Prop):Prop:=match op with
 | .pick c a b=>match s.ev c with
  | .v (.bool t)=>eJ t (K (s.ev a)) (K (s.ev b))
  | _=>False
 | .call c=>match c.callee with
  | .value f=>zu P (s.ev f) (c.args.toList.map s.ev) s.o K
  | _=>BC (Du P s.ev s.o (.call c)) K
 | op=>BC (Du P s.ev s.o op) K
theorem oJ {s:AS} {rho:Operand->Value} {oo:Oper} {K:AV->Prop} (h:RO D nu s.o w) (hev:I0 D nu s.o w s.ev rho oo.op) (hd:db P oo.op s K) :
  ∃r,K r∧Jh P ⟨fun v w=>RO D nu s.o w∧RA D nu s.o w r v,fun _ _ _ hb hh=>⟨hh.1.below hb,hh.2.mono (aw hb) (fun _ _ h=>h)⟩⟩ w ((execOp rho oo).run P w):=by
 have hop: ∀op,oo.op=op->BC (Du P s.ev s.o op) K-> ∃r,K r∧Jh P ⟨fun v w=>RO D nu s.o w∧RA D nu s.o w r v,fun _ _ _ hb hh=>⟨hh.1.below hb,hh.2.mono (aw hb) (fun _ _ h=>h)⟩⟩ w ((execOp rho oo).run P w):=by
  intro op ho hh;subst ho;unfold BC at hh
  split at hh
  ·rename_i p r e;obtain ⟨v,w',h1,h2,h3⟩:=Dv (P:=P) h hev e hh.1;rw [h1];exact ⟨r,hh.2,⟨h.below h2,h3⟩,h2⟩
  ·exact hh.elim
 unfold db at hd
 split at hd
 ·rename_i c x y ho;have hc:=hev c (by rw [ho];simp [Op.operands])
  split at hd
  ·rename_i t e;rw [e] at hc;have hcv:=hc.b5
   have hrun:(execOp rho oo).run P w = .ok (.value (if t then rho x else rho y)) w:=by simp [execOp,ho,hcv,asBool]
   rw [hrun]
   cases t
   ·exact ⟨_,hd,⟨h,hev y (by rw [ho];simp [Op.operands])⟩, .refl _ _⟩
   ·exact ⟨_,hd,⟨h,hev x (by rw [ho];simp [Op.operands])⟩, .refl _ _⟩
  ·exact hd.elim
 ·rename_i c ho
  split at hd
  ·rename_i f hc;unfold zu at hd
   split at hd
   ·rename_i g first caps e
    obtain ⟨r,hcall,hk⟩:=hd
    
    have key: ∀(K':AV->List (Option aa)->Prop),ab P g (first++c.args.toList.map s.ev++caps) s.o K'->wS P oo.op s K':=fun K' hh=>by
     unfold wS;rw [ho];simp only [hc,L5,e];exact hh
    have hf:=hev f (by rw [ho];simp [Op.operands,Call.operands,hc]);rw [e] at hf;generalize hq:rho f=vf at hf
    cases hf with
    | fn _ _ _ fi ca q1 q2 q3 q4=>
    have hargs: ∀x,x∈c.args.toList->RA D nu s.o w (s.ev x) (rho x):=fun x hx=>hev x (by rw [ho];simp only [Op.operands,Call.operands,hc];simp;exact .inr (by simpa using hx))
    have hra:fE D nu s.o w (first++c.args.toList.map s.ev++caps) (fi++c.args.map rho++ca):=by
     refine ⟨by simp [q1,q2],fun i cc x k1 k2=> ?_⟩;rw [Vv] at k1;rw [Array.append_assoc] at k2
     rcases U6 i first.length with l1|l1
     ·rw [U5 l1] at k1;rw [VE (by omega)] at k2;exact q3 i cc x k1 k2
     ·rw [Vy l1] at k1;rw [V1 (by omega)] at k2;rw [q1] at k1
      rcases U6 (i - fi.size) c.args.size with l2|l2
      ·rw [U5 (by simpa using l2),Vl] at k1;rw [VE (by simpa using l2),Array.getElem?_map] at k2
       have e2:c.args.toList[i - fi.size]? = c.args[i - fi.size]? :=by simp
       rw [e2] at k1
       cases hk2:c.args[i - fi.size]? with
       | none=>rw [hk2] at k1;cases k1
       | some y=>
        rw [hk2] at k1 k2;cases k1;cases k2;exact hargs y (VD (by rw [e2];exact hk2))
      ·rw [Vy (by simpa using l2)] at k1;rw [V1 (by simpa using l2)] at k2;simp only [List.length_map,Array.length_toList,Array.size_map] at k1 k2;exact q4 _ cc x k1 k2
    have fin: ∀(hok:df P g=true) (hcalls:Calls P g (fi++c.args.map rho++ca) w (fun e w'=> ∃v,e = .returned v∧Below w.heap.size w w'∧RA D nu s.o w' r v)), ∃r,K r∧Jh P ⟨fun v w=>RO D nu s.o w∧RA D nu s.o w r v,fun _ _ _ hb hh=>⟨hh.1.below hb,hh.2.mono (aw hb) (fun _ _ h=>h)⟩⟩ w ((execOp rho oo).run P w):=by
     intro hok hcalls
     have hrun:(execOp rho oo).run P w = .ok (.enter g (fi++c.args.map rho++ca)) w:=by
      simp only [execOp,ho,resolve,hc,hq,Deferred.ofValue,Sem.run_bind,Sem.run_pure,Result.andThen_ok,invoke];exact gR hok _ w
     rw [hrun];refine ⟨r,hk,hcalls.mono ?_⟩;rintro e w' ⟨v,rfl,hb,hr⟩;exact ⟨v,rfl,⟨h.below hb,hr⟩,hb⟩
    exact fin hcall.1 (hcall.2 D nu w _ h hra)
   ·exact hd.elim
  ·exact hop _ ho hd
 ·exact hop _ rfl hd
theorem jH {s:AS} {op:Op} {K:AV->Prop} (h:db P op s K): ∃r,K r∧db P op s (fun r'=>r'=r):=by
 have one: ∀x:Option (Prop×AV),BC x K-> ∃r,K r∧BC x (fun r'=>r'=r):=fun x hx=>by
  unfold BC at hx
  split at hx
  ·rename_i p r;exact ⟨r,hx.2,hx.1,rfl⟩
  ·exact hx.elim
 unfold db at h ⊢
 split at h
 ·rename_i c a b
  split at h
  ·rename_i t e
   cases t
   ·exact ⟨_,h,rfl⟩
   ·exact ⟨_,h,rfl⟩
  ·exact h.elim
 ·rename_i c
  split at h
  ·rename_i f hc;unfold zu at h ⊢
   split at h
   ·rename_i g first caps e
    obtain ⟨r,h1,h2⟩:=h;exact ⟨r,h2,r,h1,rfl⟩
   ·exact h.elim
  ·exact one _ h
 ·exact one _ h
def dY (P:Program) (all:List Oper):List Oper->AS->(AS->Prop)->Prop
 | [],_,_=>False
 | [oo],s,Q=>match oo.guard with
  | none=>wS P oo.op s (fun r o'=>Q (s.put oo.dst r o'))
  | some _=>False
 | oo :: rest,s,Q=>match oo.guard with
  | none=>db P oo.op s (fun r=>dY P all rest (s.put oo.dst r s.o) Q)
  | some (j,want)=>sR (jl all s j) want (db P oo.op s (fun r=>dY P all rest (s.put oo.dst r s.o) Q)) (dY P all rest (s.put oo.dst (.v Go.undef) s.o) Q)
@[congr] theorem Ls {all ops:List Oper} {s s':AS} {Q:AS->Prop} (h:s=s'):dY P all ops s Q=dY P all ops s' Q:=by rw [h]
def cv (D:Nat->Prop) (nu:Nat->Nat->Value) (o:List (Option aa)) (r:AV):Spec:=⟨fun v w=>RO D nu o w∧RA D nu o w r v,fun _ _ _ hb hh=>⟨hh.1.below hb,hh.2.mono (aw hb) (fun _ _ h=>h)⟩⟩
theorem iF {rs rs':List AV} {i:Nat} {r:AV} (h:rs[i]? = some r):at' ((rs++rs').map (cv D nu o)) i=cv D nu o r:=by
 have hlt:=(U4.1 h).1;unfold at';rw [VX,Vl,U5 hlt,h]
 rfl
theorem iG {rs rs':List AV} {r:AV}:at' ((rs++r :: rs').map (cv D nu o)) rs.length=cv D nu o r:=by
 unfold at';rw [VX,Vl,Vy (UZ _),Nat.sub_self]
 rfl
structure De (l:List Oper) (s:AS) (a:Act) (k:Nat) (sk:AS) (rs:List AV) (A:(Nat->Value)->Act):Prop where
 o:sk.o=s.o
 y:sk.y=s.y
 len:rs.length=k
 iB: ∀x,(A x).defers=a.defers
 size: ∀x,sk.t.length=(A x).tmps.size
 val: ∀x (t:Nat) c v,sk.t[t]? = some c->(A x).tmps[t]? = some v->(s.t[t]? = some c∧a.tmps[t]? = some v)∨ ∃i,i<k∧(∃oi,l[i]? = some oi∧oi.dst=some t)∧rs[i]? = some c∧v=x i
theorem De.step {l:List Oper} {s:AS} {a:Act} {k:Nat} {sk:AS} {rs:List AV} {A:(Nat->Value)->Act} (h:De l s a k sk rs A) {oo:Oper} (ho:l[k]? = some oo) (r:AV) :
  De l s a (k+1) (sk.put oo.dst r s.o) (rs++[r]) (fun x=>(A x).put oo.dst (x k)):=by
 refine ⟨rfl,h.y,by simp [h.len],fun x=> ?_,fun x=> ?_,fun x t c v h1 h2=> ?_⟩
 ·have:=h.iB x;cases oo.dst<;>simpa [Act.put] using this
 ·have:=h.size x;cases oo.dst<;>simpa [Act.put,AS.put] using this
 ·have ku:sk.t[t]? = some c->(A x).tmps[t]? = some v->(s.t[t]? = some c∧a.tmps[t]? = some v)∨ ∃i,i<k+1∧(∃oi,l[i]? = some oi∧oi.dst=some t)∧(rs++[r])[i]? = some c∧v=x i:=by
   intro h1 h2
   rcases h.val x t c v h1 h2 with h3|⟨i,q1,q2,q3,q4⟩
   ·exact .inl h3
   ·exact .inr ⟨i,by omega,q2,by rw [U5 (by rw [h.len];exact q1)];exact q3,q4⟩
  cases hd:oo.dst with
  | none=>rw [hd] at h1 h2;exact ku h1 h2
  | some d=>
   rw [hd] at h1 h2;simp only [AS.put,Act.put] at h1 h2
   by_cases hdt:d=t
   ·subst hdt;have hlt:=(U4.1 h1).1;simp only [List.length_set] at hlt;rw [Vq hlt] at h1;rw [Array.getElem?_setIfInBounds_self_of_lt (by have:=h.size x;omega)] at h2;cases h1;cases h2;exact .inr ⟨k,by omega,⟨oo,ho,hd⟩,by rw [Vy (by rw [h.len];exact UZ _),h.len,Nat.sub_self];rfl,rfl⟩
   ·rw [Vp hdt] at h1;rw [Array.getElem?_setIfInBounds_ne hdt] at h2;exact ku h1 h2
theorem EV {l:List Oper} (hB:yG l.toArray=true) {i j:Nat} {oi oj:Oper} (hij:i<j) (hi:l[i]? = some oi) (hj:l[j]? = some oj):aG l.toArray j i=true∨ ∀d,oi.dst=some d->d∉oj.looksAt l.toArray:=by
 simp only [yG,VS,List.all_eq_true,List.mem_range,List.size_toArray] at hB
 have:=(hB.2 j (U4.1 hj).1).1.1 i hij
 simp only [Hp,Vk,hi,hj,VS,Bool.or_eq_true] at this
 rcases this.1.1.1 with h|h
 ·exact .inl h
 ·exact .inr (fun d hd=>(Oper.apart_spec h).1 d hd)
theorem mw {f:Fr} {l:List Oper} (hB:yG l.toArray=true) {s:AS} {a:Act} {w0:World} {Q:AS->Prop} {R:Exit->Act->World->Prop} (hs:RS f D nu s a w0)
  (hR: ∀s' a' w' nu',bt nu s.o w0 nu' s'.o w'->s'.y=s.y->RS f D nu' s' a' w'->Q s'->R .normal a' w') :
  ∀(rest:List Oper) (k:Nat) (sk:AS) (rs:List AV) (A:(Nat->Value)->Act),l.drop k=rest->De l s a k sk rs A->dY P l rest sk Q-> ∃rs',j6 P l.toArray ((rs++rs').map (cv D nu s.o)) w0 R rest k A
 | [],_,_,_,_,_,_,h=>h.elim
 | [oo],k,sk,rs,A,hl,hI,h=>by
  refine ⟨[],yH (fun x wr hE hD=> ?_)⟩
  have hg:oo.guard=none:=by
   simp only [dY] at h
   split at h
   ·assumption
   ·exact h.elim
  simp only [dY,hg] at h;have hro:RO D nu s.o wr:=hs.ro.below hE
  have hsk:RS f D nu sk (A x) wr:=by
   refine ⟨by rw [hI.o];exact hro,⟨hI.size x,fun t c v h1 h2=> ?_⟩,by rw [hI.iB x];exact hs.iB.mono hs.ro (aw hE)⟩;rw [hI.o]
   rcases hI.val x t c v h1 h2 with ⟨h3,h4⟩|⟨i,q1,q2,q3,q4⟩
   ·exact (hs.tm.at' t c v h3 h4).mono (aw hE) (fun _ _ h=>h)
   ·have:=hD i q1
    rw [iF q3] at this;rw [q4];exact this.2
  refine ⟨by simp [Region.wanted,hg],qJ (P:=P) hsk.ro (fun y _=>hsk.ev y) h (fun v w' nu' r o' m1 m2 m3 m4=>hR (sk.put oo.dst r o') _ w' nu' ?_ hI.y (hsk.put m1 m2 m3 oo.dst) m4)⟩
  have:bt nu s.o w0 nu sk.o wr:=by rw [hI.o];exact aw hE
  simpa only [AS.put] using this.trans m1
 | oo :: o2 :: rest,k,sk,rs,A,hl,hI,h=>by
  have hok:l[k]? = some oo:=by have:=congrArg (fun m=>m[0]?) hl;simpa using this
  have hl':l.drop (k+1)=o2 :: rest:=by have:=congrArg List.tail hl;simpa using this
  
  have hlook: ∀x wr,Below w0.heap.size w0 wr->(∀rs' i,aG l.toArray k i=true->i<k->(at' ((rs++rs').map (cv D nu s.o)) i).p (x i) wr)-> ∀(t:Nat) c v,t∈oo.looksAt l.toArray->sk.t[t]? = some c->(A x).tmps[t]? = some v->RA D nu s.o wr c v:=by
   intro x wr hE hD t c v ht h1 h2
   rcases hI.val x t c v h1 h2 with ⟨h3,h4⟩|⟨i,q1,⟨oi,q2,q5⟩,q3,q4⟩
   ·exact (hs.tm.at' t c v h3 h4).mono (aw hE) (fun _ _ h=>h)
   ·rcases EV hB q1 q2 hok with h5|h5
    ·have:=hD [] i h5 q1
     rw [iF q3] at this;rw [q4];exact this.2
    ·exact absurd ht (h5 t q5)
  have hevs: ∀x wr,Below w0.heap.size w0 wr->(∀rs' i,aG l.toArray k i=true->i<k->(at' ((rs++rs').map (cv D nu s.o)) i).p (x i) wr)->I0 D nu s.o wr sk.ev (A x).eval oo.op:=by
   intro x wr hE hD y hy
   cases y with
   | tmp t=>
    simp only [AS.ev,Act.eval]
    rcases U6 t sk.t.length with hlt|hge
    ·have e1:sk.t[t]? = some sk.t[t]:=Vi hlt
     have hlt':t<(A x).tmps.size:=by rw [<-hI.size x];exact hlt
     have hx:(A x).tmps[t]? = some (A x).tmps[t]:=Array.getElem?_eq_getElem hlt';rw [getD_some e1]
     have:(A x).tmps.getD t Go.undef=(A x).tmps[t]:=by simp [Array.getD,hlt']
     rw [this];exact hlook x wr hE hD t _ _ (List.mem_append_left _ (List.mem_filterMap.2 ⟨.tmp t,hy,rfl⟩)) e1 hx
    ·rw [VX,List.getElem?_eq_none hge];exact .undef _
   | const v=>exact .v v
   | global gi=>exact (qj hs.ro sk gi).mono (aw hE) (fun _ _ h=>h)
   | func f=>exact .fn f [] [] #[] #[] rfl rfl (fun i c x h=>by simp at h) (fun i c x h=>by simp at h)
  
  have hdo:db P oo.op sk (fun r=>dY P l (o2 :: rest) (sk.put oo.dst r sk.o) Q)->(∀x wr,Below w0.heap.size w0 wr->(∀rs' i,aG l.toArray k i=true->i<k->(at' ((rs++rs').map (cv D nu s.o)) i).p (x i) wr)->Region.wanted oo (yielded l.toArray (A x).tmps)=true) ->
    ∃rs',j6 P l.toArray ((rs++rs').map (cv D nu s.o)) w0 R (oo :: o2 :: rest) k A:=by
   intro hd hw;obtain ⟨r,hk,hr⟩:=jH hd;rw [hI.o] at hk;obtain ⟨rs',hrel⟩:=mw hB hs hR (o2 :: rest) (k+1) _ (rs++[r]) _ hl' (hI.step hok r) hk;rw [Vv,V3] at hrel;refine ⟨r :: rs',pS (fun x wr hE hD=> ?_) hrel⟩
   have hD': ∀rs'' i,aG l.toArray k i=true->i<k->(at' ((rs++rs'').map (cv D nu s.o)) i).p (x i) wr:=fun rs'' i h1 h2=>by
    have h3:=hD i h1
    have h5:i<rs.length:=by rw [hI.len];exact h2
    have h4:rs[i]? = some rs[i]:=Vi h5;rw [iF h4] at h3 ⊢;exact h3
   obtain ⟨r',rfl,hout⟩:=oJ (P:=P) (nu:=nu) (D:=D) (w:=wr) (rho:=(A x).eval) (by rw [hI.o];exact hs.ro.below hE) (by rw [hI.o];exact hevs x wr hE hD') hr;have e:=iG (D:=D) (nu:=nu) (o:=s.o) (rs:=rs) (rs':=rs') (r:=r');rw [hI.len] at e;refine .inl ⟨hw x wr hE hD', ?_⟩;rw [e];rw [hI.o] at hout;exact hout
  simp only [dY] at h
  split at h
  ·rename_i hg;exact hdo h (fun x wr hE hD=>by simp [Region.wanted,hg])
  ·rename_i j want hg
   have hyv: ∀g,jl l sk j=some g-> ∀x wr,Below w0.heap.size w0 wr->(∀rs' i,aG l.toArray k i=true->i<k->(at' ((rs++rs').map (cv D nu s.o)) i).p (x i) wr)->yielded l.toArray (A x).tmps j=g:=fun g hgv x wr hE hD=>
    fa (D:=D) (nu:=nu) (w:=wr) (fun d c v hd h1 h2=>by
     rw [hI.o];refine hlook x wr hE hD d c v ?_ h1 h2;obtain ⟨og,q1,q2⟩:=hd;refine List.mem_append_right _ ?_;simp only [hg,Vk,q1,Option.bind_some,q2]
     simp) (hI.size x) hgv
   have hskip:dY P l (o2 :: rest) (sk.put oo.dst (.v Go.undef) sk.o) Q->(∀x wr,Below w0.heap.size w0 wr->(∀rs' i,aG l.toArray k i=true->i<k->(at' ((rs++rs').map (cv D nu s.o)) i).p (x i) wr)->Region.wanted oo (yielded l.toArray (A x).tmps)=false) ->
     ∃rs',j6 P l.toArray ((rs++rs').map (cv D nu s.o)) w0 R (oo :: o2 :: rest) k A:=by
    intro hk hw;rw [hI.o] at hk;obtain ⟨rs',hrel⟩:=mw hB hs hR (o2 :: rest) (k+1) _ (rs++[.v Go.undef]) _ hl' (hI.step hok (.v Go.undef)) hk;rw [Vv,V3] at hrel;refine ⟨.v Go.undef :: rs',pS (fun x wr hE hD=> ?_) hrel⟩
    have hD': ∀rs'' i,aG l.toArray k i=true->i<k->(at' ((rs++rs'').map (cv D nu s.o)) i).p (x i) wr:=fun rs'' i h1 h2=>by
     have h3:=hD i h1
     have h5:i<rs.length:=by rw [hI.len];exact h2
     have h4:rs[i]? = some rs[i]:=Vi h5;rw [iF h4] at h3 ⊢;exact h3
    have e:=iG (D:=D) (nu:=nu) (o:=s.o) (rs:=rs) (rs':=rs') (r:= .v Go.undef);rw [hI.len] at e;refine .inr ⟨hw x wr hE hD', ?_⟩;rw [e];exact ⟨hs.ro.below hE, .v _⟩
   unfold sR at h
   split at h
   ·rename_i b e
    cases hb:b==want
    ·rw [hb] at h;exact hskip h (fun x wr hE hD=>by simp only [Region.wanted,hg,hyv _ e x wr hE hD];simpa using hb)
    ·rw [hb] at h;exact hdo h (fun x wr hE hD=>by simp only [Region.wanted,hg,hyv _ e x wr hE hD];simpa using hb)
   ·rename_i e;exact hskip h (fun x wr hE hD=>by simp only [Region.wanted,hg,hyv _ e x wr hE hD];rfl)
   ·exact h.elim
end
end
section
inductive aR where
 | normal
 | exit (id:Nat)
 | goto (l:Nat)
 | ret
def aR.real:aR->Exit
 | .normal=> .normal
 | .exit id=> .exit id
 | .goto l=> .goto l
 | .ret=> .ret
def aW (n:Nat):List AV->List AV->Prop
 | [],[]=>True
 | a :: l,c :: m=>(c = .undef∨(a=c∧c.wf n=true))∧aW n l m
 | _,_=>False
def aY (n:Nat):List (Option aa)->List (Option aa)->Prop
 | _,[]=>True
 | x :: l,y :: m=>(y=none∨(x=y∧ ∀ob,y=some ob->bZ n ob.rows=true))∧aY n l m
 | [],_ :: _=>False
structure Wk (n0:Nat) (s s':AS):Prop where
 t:aW s'.o.length s.t s'.t
 o:aY s'.o.length s.o s'.o
 n:n0<=s'.o.length
 y:s.y=s'.y
theorem u0 {n:Nat}: ∀ {l m:List AV},aW n l m->l.length=m.length∧ ∀(i:Nat) c,m[i]? = some c->c = .undef∨(l[i]? = some c∧c.wf n=true)
 | [],[],_=>⟨rfl,fun i c h=>by simp at h⟩
 | a :: l,b :: m,h=>by
  obtain ⟨h1,h2⟩:=u0 h.2;refine ⟨by simp [h1],fun i c hc=> ?_⟩
  cases i with
  | zero=>simp at hc;subst hc;exact h.1.imp id (fun q=>⟨by simp [q.1],q.2⟩)
  | succ i=>simpa using h2 i c (by simpa using hc)
 | [],_ :: _,h=>h.elim
 | _ :: _,[],h=>h.elim
theorem uZ {n:Nat}: ∀ {l m:List (Option aa)},aY n l m->m.length<=l.length∧ ∀(i:Nat) c,m[i]? = some c->c=none∨(l[i]? = some c∧ ∀ob,c=some ob->bZ n ob.rows=true)
 | l,[],_=>⟨by simp,fun i c h=>by simp at h⟩
 | a :: l,b :: m,h=>by
  obtain ⟨h1,h2⟩:=uZ h.2;refine ⟨by simp [h1],fun i c hc=> ?_⟩
  cases i with
  | zero=>simp at hc;subst hc;exact h.1.imp id (fun q=>⟨by simp [q.1],q.2⟩)
  | succ i=>simpa using h2 i c (by simpa using hc)
 | [],_ :: _,h=>h.elim
section
variable {D:Nat->Prop} {nu:Nat->Nat->Value} {o:List (Option aa)} {w:World} {P:Program}
theorem jz {n0:Nat} {s s':AS} (h:Wk n0 s s'):n0<=s'.o.length∧(∀(id:Nat) ob,s'.o[id]? = some (some ob)->s.o[id]? = some (some ob))∧(∀id len,id<s'.o.length->c7 s.o id len->c7 s'.o id len):=by
 obtain ⟨o1,o2⟩:=uZ h.o
 have alive: ∀(id:Nat) ob,s'.o[id]? = some (some ob)->s.o[id]? = some (some ob):=fun id ob hh=>by
  rcases o2 id _ hh with e|⟨e,f⟩
  ·cases e
  ·exact e
 refine ⟨h.n,alive,fun id len hlt hh=> ?_⟩;obtain ⟨ob,k1,k2⟩:=hh;have e:s'.o[id]? = some s'.o[id]:=Vi hlt;refine ⟨_,e,fun x hx=> ?_⟩;rw [hx] at e;have e1:=alive id x e;rw [e1] at k1;cases k1;exact k2 x rfl
theorem zk {f:Fr} {n0:Nat} {s s':AS} {a:Act} {D':Nat->Prop} (h:Wk n0 s s') (hs:RS f D nu s a w) (hd1: ∀b,Fz D nu s.o w b->D' b) (hd2: ∀b,owned nu s'.o b->D' b) (hd3: ∀b,w.heap.size<=b->D' b):RS f D' nu s' a w:=by
 obtain ⟨t1,t2⟩:=u0 h.t;obtain ⟨o1,o2⟩:=uZ h.o;obtain ⟨_,al,hd⟩:=jz h
 have alive: ∀(id:Nat) ob,s'.o[id]? = some (some ob)->s.o[id]? = some (some ob)∧bZ s'.o.length ob.rows=true:=fun id ob hh=>by
  rcases o2 id _ hh with e|⟨e,f⟩
  ·cases e
  ·exact ⟨e,f ob rfl⟩
 have hown: ∀b,owned nu s'.o b->owned nu s.o b:=fun b ⟨id,ob,h1,h2⟩=>⟨id,ob,(alive id ob h1).1,h2⟩;have hF: ∀b,Fz D nu s.o w b->Fz D' nu s'.o w b:=fun b hb=>⟨hb.1,fun ho=>hb.2.1 (hown b ho),hd1 b hb⟩;have hH: ∀id len,id<s'.o.length->c7 s.o id len->c7 s'.o id len∧nu id len=nu id len:=fun id len hlt hh=>⟨hd id len hlt hh,rfl⟩
 refine ⟨⟨fun id ob ho=> ?_,hd3,fun i1 i2 b1 b2 b k1 k2=>hs.ro.sep i1 i2 b1 b2 b (alive _ _ k1).1 (alive _ _ k2).1,hs.ro.gl.fz (fun b hf=>⟨rfl,hF b hf⟩)⟩,⟨?_,fun i c x h1 h2=> ?_⟩,hs.iB⟩
 ·obtain ⟨e1,e2⟩:=alive id ob ho
  rcases hs.ro.obj id ob e1 with e|⟨g,cur,hr⟩|⟨g,es,cl,hmp⟩
  ·exact .inl e
  ·exact .inr (.inl ⟨g,cur,hr.blk,hd2 g ⟨id,ob,ho,hr.bg⟩,hr.box,hr.vec,hr.z,hr.row,fun i j row c x q1 q2 q3=>(hr.cell i j row c x q1 q2 q3).tr hF hH (bO (gT e2 q1) q2),hr.one⟩)
  ·exact .inr (.inr ⟨g,es,cl,hmp.tr rfl (fun _=>hd2 g ⟨id,ob,ho,hmp.bg⟩) rfl (fun i j row c x q1 q2 hr=>hr.tr hF hH (bO (gT e2 q1) q2))⟩)
 ·rw [<-t1];exact hs.tm.len
 ·rcases t2 i c h1 with rfl|⟨e,f⟩
  ·exact .undef x
  ·exact (hs.tm.at' i c x e h2).tr hF hH f
theorem gW {f:Fr} {n0:Nat} {s s':AS} {a:Act} (h:Wk n0 s s') (hs:RS f D nu s a w):RS f D nu s' a w:=
 zk h hs (fun b hb=>hb.2.2) (fun b ⟨id,ob,h1,h2⟩=>hs.ro.jO ⟨id,ob,(jz h).2.1 id ob h1,h2⟩) hs.ro.up
theorem Wk.TB {D':Nat->Prop} {n0:Nat} {s s':AS} (h:Wk n0 s s') (hd: ∀b,Fz D nu s.o w b->D' b) {c:AV} {v:Value} (hr:RA D nu s.o w c v) (hc:c.wf s'.o.length=true):RA D' nu s'.o w c v:=by
 obtain ⟨_,h2,h3⟩:=jz h;exact hr.tr (fun b hb=>⟨hb.1,fun ⟨id,ob,k1,k2⟩=>hb.2.1 ⟨id,ob,h2 id ob k1,k2⟩,hd b hb⟩) (fun id len hlt hh=>⟨h3 id len hlt hh,rfl⟩) hc
theorem Wk.ra {n0:Nat} {s s':AS} (h:Wk n0 s s') {c:AV} {v:Value} (hr:RA D nu s.o w c v) (hc:c.wf s'.o.length=true):RA D nu s'.o w c v:=h.TB (fun b hb=>hb.2.2) hr hc
theorem Wk.rS {n0:Nat} {s s':AS} {Z:Nat->Prop} (h:Wk n0 s s'):BI Z nu s.o w nu s'.o w:=by
 obtain ⟨h1,h2,h3⟩:=jz h;exact ⟨rfl,rfl,rfl,UZ _,fun id len hlt hh=>⟨h3 id len hlt hh,rfl⟩,fun b hb hno _=>⟨rfl,fun ⟨id,ob,k1,k2⟩=>hno ⟨id,ob,h2 id ob k1,k2⟩⟩⟩
theorem Wk.mono {n0:Nat} {s s':AS} (h:Wk n0 s s') {nu0:Nat->Nat->Value} {o0:List (Option aa)} {w0:World} (hn:o0.length<=n0) (hm:bt nu0 o0 w0 nu s.o w):bt nu0 o0 w0 nu s'.o w:=by
 obtain ⟨h1,h2,h3⟩:=jz h
 refine ⟨hm.os,hm.tape,hm.output,hm.size,fun id len hh=> ?_,fun b hb hno=> ?_⟩
 ·obtain ⟨q1,q2⟩:=hm.p8 id len hh;have hlt:=gd hh;exact ⟨h3 id len (by omega) q1,q2⟩
 ·obtain ⟨q1,q2⟩:=hm.keep b hb hno;exact ⟨q1,fun ⟨id,ob,k1,k2⟩=>q2 ⟨id,ob,h2 id ob k1,k2⟩⟩
inductive Gs (s:AS):AS->Prop
 | refl:Gs s s
 | step (i:Nat) (T:TypeId) (z:Nat) (s1:AS):Gs s s1->s1.t[i]? = some (.v (.slice none 0 0))->0<z->Gs s ⟨s1.t.set i (.vec s1.o.length 0),s1.o++[some ⟨T,z,true,[]⟩],s1.y⟩
theorem Kd {f:Fr} {s s':AS} {a:Act} (h:Gs s s') (hs:RS f D nu s a w): ∃nu',bt nu s.o w nu' s'.o w∧s'.y=s.y∧RS f D nu' s' a w:=by
 induction h with
 | refl=>exact ⟨nu, .refl _ _ _,rfl,hs⟩
 | step i T z s1 _ hi hz ih=>
  obtain ⟨nu1,hm1,hy1,hs1⟩:=ih
  have hv: ∀b,b9 (Value.slice none 0 0)=some b->w.heap.size<=b:=fun b e=>by cases e
  have hp:=dv (nu:=nu1) (o:=s1.o) (ob:=⟨T,z,true,[]⟩) (Below.refl w.heap.size w) hv;refine ⟨cN nu1 s1.o.length (.slice none 0 0),hm1.trans hp,hy1,⟨gP hs1.ro (Below.refl _ _) hv (.inl ⟨rfl,rfl,rfl⟩), ?_,hs1.iB⟩⟩;have ht:=hs1.tm.mono hp (fun _ _ h=>h);refine ⟨by simpa using ht.len,fun j c x h1 h2=> ?_⟩
  by_cases hij:i=j
  ·subst hij;rw [Vq (U4.1 hi).1] at h1;cases h1
   have:=(ht.at' i _ x hi h2).b5
   subst this
   have:=RA.vec (D:=D) (nu:=cN nu1 s1.o.length (.slice none 0 0)) (o:=s1.o++[some ⟨T,z,true,[]⟩]) (w:=w) s1.o.length 0 ⟨_,List.getElem?_concat_length,fun x hx=>Nat.zero_le _⟩ (by rw [aQ];rfl)
   rw [aQ] at this;exact this
  ·rw [Vp hij] at h1;exact ht.at' j c x h1 h2
def zq (c:AV) (A B:Prop):Prop:=match c with
 | .v (.bool t)=>eJ t A B
 | _=>False
@[congr] theorem L0 {c c':AV} {A B:Prop} (h:c=c'):zq c A B=zq c' A B:=by rw [h]
theorem C8 (t:Bool) (A B:Prop):zq (.v (.bool t)) A B=eJ t A B:=rfl
def BB (n0:Nat) (step:AS->(aR->AS->Prop)->Prop) (s:AS) (Q:aR->AS->Prop):Prop:=
 ∃I:Nat->AS->Prop,(∃m s1 s2,Gs s s1∧Wk n0 s1 s2∧I m s2) ∧
  ∀m s1,I m s1->step s1 (fun e s2=>match e with
   | .normal=> ∃m' s3,Wk n0 s2 s3∧I m' s3∧m'<m
   | e=>Q e s2)
@[congr] theorem Lt {n0:Nat} {step:AS->(aR->AS->Prop)->Prop} {s s':AS} {Q:aR->AS->Prop} (h:s=s'):BB n0 step s Q=BB n0 step s' Q:=by rw [h]
def zw (P:Program) (n0:Nat) (c:Code) (s:AS) (Q:aR->AS->Prop):Prop:=
 ∀(f:Fr) (m:WM P) (D:Nat->Prop) (nu:Nat->Nat->Value) (a:Act) (w:World),(∀l,f.r=some l->m.fix l)->m.n0<=n0->m.M D nu s.o f.Z s.y w->RS f D nu s a w->P.follows .mixedOrders=true-> ∀R:Exit->Act->World->Prop,(∀a w, ¬R .outgrown a w) ->
  (∀e D' Z' s' a' w' nu',m.M D' nu' s'.o Z' s'.y w'->RS (f.wz Z') D' nu' s' a' w'->Q e s'->R e.real a' w')->c.wpIn (WF f.r) 9 P R a w
def bS (P:Program) (n0:Nat):Code->AS->(aR->AS->Prop)->Prop
 | .skip,s,Q=>Q .normal s
 | .region i ops d,s,Q=>if d then (yG ops=true∧dY P ops.toList ops.toList s (Q .normal))∨zw P n0 (.region i ops d) s Q else gK P ops.toList ops.toList s (Q .normal)∨zw P n0 (.region i ops d) s Q
 | .seq a b,s,Q=>bS P n0 a s (fun e s'=>match e with
  | .normal=>bS P n0 b s' Q
  | e=>Q e s')∨zw P n0 (.seq a b) s Q
 | .cond c a b,s,Q=>zq (s.ev c) (bS P n0 a s Q) (bS P n0 b s Q)
 | .block id c,s,Q=>bS P n0 c s (fun e s'=>match e with
  | .exit i=>if i=id then Q .normal s' else Q (.exit i) s'
  | e=>Q e s')
 | .loop c,s,Q=>BB n0 (bS P n0 c) s Q
 | .rangeFunc g ps x y,s,Q=>zw P n0 (.rangeFunc g ps x y) s Q
 | .exit id,s,Q=>Q (.exit id) s
 | .scope c,s,Q=>bS P n0 c s (fun e s'=>match e with
  | .goto _=>False
  | e=>Q e s')
 | .label _,s,Q=>Q .normal s
 | .goto l,s,Q=>Q (.goto l) s
 | .ret,s,Q=>Q .ret s
 | .refuse _,_,_=>False
@[congr] theorem NN {n0:Nat} {c:Code} {s s':AS} {Q:aR->AS->Prop} (h:s=s'):bS P n0 c s Q=bS P n0 c s' Q:=by rw [h]
def bq:Code->Bool
 | .region _ ops d=>dy ops
 | .seq a b=>bq a&&bq b
 | .cond _ a b=>bq a&&bq b
 | .block _ c=>bq c
 | .loop c=>bq c
 | .scope c=>bq c
 | .rangeFunc .. =>true
 | .refuse _=>false
 | _=>true
theorem RS.drew {f:Fr} {s:AS} {a:Act} (h:RS f D nu s a w):RS f D nu s a w.drew:=⟨h.ro.below (cP w),h.tm.mono (aw (cP w)) (fun _ _ h=>h),h.iB.mono h.ro (aw (cP w))⟩
theorem xy {ops:Array Oper} (h:dy ops=true): ∀oo,oo∈ops.toList-> ∀c,oo.op ≠ .defer c:=fun oo ho c e=>by
 unfold dy at h;rw [Array.all_eq_true_iff_forall_mem] at h
 have:=h oo (by simpa using ho)
 rw [e] at this;cases this
theorem fl (hmx:P.follows .mixedOrders=true) {f:Fr} (m:WM P) (hZr: ∀l,f.r=some l->m.fix l) {n0:Nat} (hn:m.n0<=n0): ∀(c:Code),bq c=true-> ∀(s:AS) (a:Act) (w:World) (D:Nat->Prop) (nu:Nat->Nat->Value) (Z:Nat->Prop) (Q:aR->AS->Prop) (R:Exit->Act->World->Prop),
  (∀a w, ¬R .outgrown a w)->m.M D nu s.o Z s.y w->RS (f.wz Z) D nu s a w->bS P n0 c s Q->(∀e D' Z' s' a' w' nu',m.M D' nu' s'.o Z' s'.y w'->RS (f.wz Z') D' nu' s' a' w'->Q e s'->R e.real a' w')->c.wpIn (WF f.r) 9 P R a w:=by
 intro c
 induction c with
 | skip=>exact fun _ s a w D nu Z Q R _ hm hs hq hR=>wpIn_skip (hR .normal D Z s a w nu hm hs hq)
 | region id ops d=>
  intro hok s a w D nu Z Q R hO hm hs hq hR
  cases d
  ·simp only [bS,Bool.false_eq_true,if_false] at hq
   rcases hq with hq|hq
   case inr=>exact hq (f.wz Z) m D nu a w hZr hn hm hs hmx R hO hR
   exact wpIn_region_list (by
    have:=jg (f:=f.wz Z) m hZr (all:=ops.toList) ops.toList s a w D nu (xy hok) hm hs hq (fun D' s' a' w' nu' h1 h2 h3=>hR .normal D' Z s' a' w' nu' h1 h2 h3)
    simpa [Fr.wz] using this)
  ·obtain ⟨l⟩:=ops;simp only [bS,if_true] at hq
   rcases hq with ⟨hB,hq⟩|hq
   case inr=>exact hq (f.wz Z) m D nu a w hZr hn hm hs hmx R hO hR
   obtain ⟨rs,hrel⟩:=mw (P:=P) (R:=R) hB hs.drew (fun s' a' w' nu' h1 hy h2 h3=>hR .normal D Z s' a' w' nu' (by rw [hy];exact m.own hm hs.ro ((aw (cP w)).trans h1) h2.ro) h2 h3) l 0 s [] (fun _=>a) (by simp) ⟨rfl,rfl,rfl,fun _=>rfl,fun _=>hs.tm.len,fun x t c v h1 h2=> .inl ⟨h1,h2⟩⟩ hq;exact ou hmx hok hO (qN _ hB hrel)
 | seq x y ihx ihy=>
  intro hok s a w D nu Z Q R hO hm hs hq hR
  rcases hq with hq|hq
  case inr=>exact hq (f.wz Z) m D nu a w hZr hn hm hs hmx R hO hR
  simp only [bq,VS] at hok;refine wpIn_seq (ihx hok.1 s a w D nu Z _ _ (fun a w h=>hO a w h) hm hs hq (fun e D' Z' s' a' w' nu' h1 h2 h3=> ?_))
  cases e with
  | normal=>exact ihy hok.2 s' a' w' D' nu' Z' Q R hO h1 h2 h3 hR
  | exit i=>exact hR (.exit i) D' Z' s' a' w' nu' h1 h2 h3
  | goto i=>exact hR (.goto i) D' Z' s' a' w' nu' h1 h2 h3
  | ret=>exact hR .ret D' Z' s' a' w' nu' h1 h2 h3
 | cond c x y ihx ihy=>
  intro hok s a w D nu Z Q R hO hm hs hq hR;simp only [bq,VS] at hok;simp only [bS,zq] at hq
  split at hq
  ·rename_i t e;have hc:=hs.ev c;rw [e] at hc;refine wpIn_cond hc.b5 ?_
   cases t
   ·exact ihy hok.2 s a w D nu Z Q R hO hm hs hq hR
   ·exact ihx hok.1 s a w D nu Z Q R hO hm hs hq hR
  ·exact hq.elim
 | block id c ih=>
  intro hok s a w D nu Z Q R hO hm hs hq hR;refine wpIn_block (ih hok s a w D nu Z _ _ (fun a w h=>hO a w h) hm hs hq (fun e D' Z' s' a' w' nu' h1 h2 h3=> ?_))
  cases e with
  | normal=>exact hR .normal D' Z' s' a' w' nu' h1 h2 h3
  | exit i=>
   simp only [aR.real,Exit.inBlock];simp only at h3
   split
   ·rename_i hi;rw [if_pos hi] at h3;exact hR .normal D' Z' s' a' w' nu' h1 h2 h3
   ·rename_i hi;rw [if_neg hi] at h3;exact hR (.exit i) D' Z' s' a' w' nu' h1 h2 h3
  | goto i=>exact hR (.goto i) D' Z' s' a' w' nu' h1 h2 h3
  | ret=>exact hR .ret D' Z' s' a' w' nu' h1 h2 h3
 | loop c ih=>
  intro hok s a w D nu Z Q R hO hm hs hq hR;obtain ⟨I,⟨k,s1,s2,hg,hw,hI⟩,hround⟩:=hq;obtain ⟨nu1,hm1,hy1,hs1⟩:=Kd hg hs;have hs2:=gW hw hs1
  have Lo: ∀ {D nu Z s3 s4 a w},Wk n0 s3 s4->m.M D nu s3.o Z s3.y w->RS (f.wz Z) D nu s3 a w->m.M D nu s4.o Z s4.y w:=fun {D nu Z s3 s4 a w} hk hm hs=>by
   rw [<-hk.y];exact m.step hm hs.ro hk.rS (gW hk hs).ro (fun c v hr hc=>hk.ra hr hc) (fun _ h=> .inl h) (fun _ h=> .inl h) (fun b hb=>⟨((m.mV hm).1 b hb).1,((m.mV hm).1 b hb).2, .inl hb⟩) (U0 hn hk.n)
  have hM1:m.M D nu1 s1.o Z s1.y w:=by rw [hy1];exact m.own hm hs.ro hm1 hs1.ro
  refine tp (fun k a w=> ∃s D nu Z,I k s∧m.M D nu s.o Z s.y w∧RS (f.wz Z) D nu s a w) (m:=k) ⟨s2,D,nu1,Z,hI,Lo hw hM1 hs1,hs2⟩ ?_;rintro k a w ⟨s,D,nu,Z,hI,hm,hs⟩;refine ih hok s a w D nu Z _ _ (fun a w h=>hO a w h) hm hs (hround k s hI) (fun e D' Z' s' a' w' nu' h1 h2 h3=> ?_)
  cases e with
  | normal=>
   obtain ⟨m',s3,k1,k2,k3⟩:=h3;exact ⟨m',⟨s3,D',nu',Z',k2,Lo k1 h1 h2,gW k1 h2⟩,k3⟩
  | exit i=>exact hR (.exit i) D' Z' s' a' w' nu' h1 h2 h3
  | goto i=>exact hR (.goto i) D' Z' s' a' w' nu' h1 h2 h3
  | ret=>exact hR .ret D' Z' s' a' w' nu' h1 h2 h3
 | rangeFunc g ps x y _ _=>exact fun _ s a w D nu Z Q R hO hm hs hq hR=>hq (f.wz Z) m D nu a w hZr hn hm hs hmx R hO hR
 | exit id=>exact fun _ s a w D nu Z Q R _ hm hs hq hR=>wpIn_exit (hR (.exit id) D Z s a w nu hm hs hq)
 | scope c ih=>
  intro hok s a w D nu Z Q R hO hm hs hq hR;refine Bz (ih hok s a w D nu Z _ _ (fun a w h=>hO a w h) hm hs hq (fun e D' Z' s' a' w' nu' h1 h2 h3=> ?_))
  cases e with
  | normal=>exact hR .normal D' Z' s' a' w' nu' h1 h2 h3
  | exit i=>exact hR (.exit i) D' Z' s' a' w' nu' h1 h2 h3
  | goto i=>exact h3.elim
  | ret=>exact hR .ret D' Z' s' a' w' nu' h1 h2 h3
 | label l=>exact fun _ s a w D nu Z Q R _ hm hs hq hR=>wpIn_label (hR .normal D Z s a w nu hm hs hq)
 | goto l=>exact fun _ s a w D nu Z Q R _ hm hs hq hR=>wpIn_goto (hR (.goto l) D Z s a w nu hm hs hq)
 | ret=>exact fun _ s a w D nu Z Q R _ hm hs hq hR=>wpIn_ret (hR .ret D Z s a w nu hm hs hq)
 | refuse why=>intro hok;cases hok
end
end
section
section
variable {D:Nat->Prop} {nu:Nat->Nat->Value} {o:List (Option aa)} {w:World} {P:Program}
def kG (P:Program) (s:AS):List ResultVar->Option (Prop×List AV)
 | []=>some (True,[])
 | .tmp t :: l=>match kG P s l with
  | some (p,vs)=>some (p,s.ev (.tmp t) :: vs)
  | none=>none
 | .cell a T :: l=>match xa P T s.o (s.ev (.tmp a)),kG P s l with
  | some (q,v),some (p,vs)=>some (q∧p,v :: vs)
  | _,_=>none
def lV (x:Option (Prop×List AV)) (o:List (Option aa)) (Q:AV->List (Option aa)->Prop):Prop:=match x with
 | some (p,[v])=>p∧Q v o
 | some (p,vs)=>p∧Q (.cy vs) o
 | none=>False
@[congr] theorem L4 {x y:Option (Prop×List AV)} {o o':List (Option aa)} {Q:AV->List (Option aa)->Prop} (h:x=y) (k:o=o'):lV x o Q=lV y o' Q:=by rw [h,k]
theorem Fk (p:Prop) (v:AV) (Q:AV->List (Option aa)->Prop):lV (some (p,[v])) o Q=(p∧Q v o):=rfl
theorem Db (p:Prop) (Q:AV->List (Option aa)->Prop):lV (some (p,[])) o Q=(p∧Q (.cy []) o):=rfl
theorem Fl (p:Prop) (v u:AV) (l:List AV) (Q:AV->List (Option aa)->Prop):lV (some (p,v :: u :: l)) o Q=(p∧Q (.cy (v :: u :: l)) o):=rfl
def wT (P:Program) (rs:List ResultVar) (Q:AV->List (Option aa)->Prop) (e:aR) (s:AS):Prop:=match e with
 | .ret=>lV (kG P s rs) s.o Q
 | .normal=>lV (kG P s rs) s.o Q
 | _=>False
@[congr] theorem L2 {rs:List ResultVar} {Q:AV->List (Option aa)->Prop} {e e':aR} {s s':AS} (h:e=e') (k:s=s'):wT P rs Q e s=wT P rs Q e' s':=by rw [h,k]
theorem Fj (rs:List ResultVar) (Q:AV->List (Option aa)->Prop) (s:AS):wT P rs Q .ret s=lV (kG P s rs) s.o Q:=rfl
theorem wU (rs:List ResultVar) (Q:AV->List (Option aa)->Prop) (s:AS):wT P rs Q .normal s=lV (kG P s rs) s.o Q:=rfl
def lg (tmps:Array Value):ResultVar->Sem Value
 | .tmp t=>pure (tmps.getD t Go.undef)
 | .cell a t=>do loadVar t (<-asAddr (tmps.getD a Go.undef))
theorem so {f:Fr} {s:AS} {a:Act} (h:RS f D nu s a w): ∀(l:List ResultVar) {p:Prop} {vs:List AV},kG P s l=some (p,vs)->p-> ∃xs:List Value,(l.mapM (lg a.tmps)).run P w = .ok xs w∧vs.length=xs.length∧ ∀(i:Nat) c x,vs[i]? = some c->xs[i]? = some x->RA D nu s.o w c x
 | [],p,vs,hr,hp=>by
  cases hr;exact ⟨[],by simp,rfl,fun i c x h=>by simp at h⟩
 | rv :: l,p,vs,hr,hp=>by
  have step: ∀(v:AV) (q:Prop) (vs':List AV),(∃x,(lg a.tmps rv).run P w = .ok x w∧RA D nu s.o w v x)->kG P s l=some (q,vs')->q->vs=v :: vs'-> ∃xs:List Value,((rv :: l).mapM (lg a.tmps)).run P w = .ok xs w∧vs.length=xs.length∧ ∀(i:Nat) c x,vs[i]? = some c->xs[i]? = some x->RA D nu s.o w c x:=by
   rintro v q vs' ⟨x,hx1,hx2⟩ hl hq rfl;obtain ⟨xs,h1,h2,h3⟩:=so h l hl hq;refine ⟨x :: xs,by simp [List.mapM_cons,hx1,h1],by simp [h2],fun i c y q1 q2=> ?_⟩
   cases i with
   | zero=>simp at q1 q2;subst q1;subst q2;exact hx2
   | succ i=>exact h3 i c y (by simpa using q1) (by simpa using q2)
  cases rv with
  | tmp t=>
   simp only [kG] at hr
   split at hr
   ·rename_i q vs' e;cases hr;exact step _ _ _ ⟨a.eval (.tmp t),rfl,h.ev (.tmp t)⟩ e hp rfl
   ·cases hr
  | cell ad T=>
   simp only [kG] at hr
   split at hr
   ·rename_i q v q' vs' e1 e2;cases hr;obtain ⟨x,hx1,hx2⟩:=lI (P:=P) h.ro (h.ev (.tmp ad)) e1 hp.1;refine step _ _ _ ⟨x, ?_,hx2⟩ e2 hp.2 rfl;simp only [Act.eval] at hx1;simp only [lg]
    cases hq:a.tmps.getD ad Go.undef with
    | pointer pa=>
     cases pa with
     | none=>rw [hq] at hx1;simp [Instr.loadAt,Instr.sureAddr] at hx1
     | some pa=>
      rw [hq] at hx1;simpa [Instr.loadAt,Instr.sureAddr,asAddr] using hx1
    | _=>rw [hq] at hx1;simp [Instr.loadAt,Instr.sureAddr] at hx1
   ·cases hr
theorem yI {f:Fr} {fn:Func} {s:AS} {a:Act} {Q:AV->List (Option aa)->Prop} (h:RS f D nu s a w) (hf:lV (kG P s fn.results.toList) s.o Q): ∃v r,(results fn a.tmps).run P w = .ok v w∧RA D nu s.o w r v∧Q r s.o:=by
 have hmap: ∀xs:List Value,(fn.results.toList.mapM (lg a.tmps)).run P w = .ok xs w->(results fn a.tmps).run P w = .ok (if h:xs.toArray.size=1 then xs.toArray[0] else .tuple xs.toArray) w:=by
  intro xs hx
  have e:fn.results.mapM (lg a.tmps)=(List.toArray <$> fn.results.toList.mapM (lg a.tmps)):=by
   rw [Array.mapM_eq_mapM_toList]
  have:results fn a.tmps=(do let vs <-fn.results.mapM (lg a.tmps);pure (if h:vs.size=1 then vs[0] else .tuple vs)):=by
   unfold results
   congr 1
  rw [this,e];simp [hx]
 unfold lV at hf
 split at hf
 ·rename_i p v e;obtain ⟨xs,h1,h2,h3⟩:=so h _ e hf.1;obtain ⟨x,rfl⟩:=VJ.1 h2.symm;exact ⟨x,v,by rw [hmap _ h1];simp,h3 0 v x rfl rfl,hf.2⟩
 ·rename_i p vs hne e;obtain ⟨xs,h1,h2,h3⟩:=so h _ e hf.1
  have hl: ¬xs.toArray.size=1:=fun e1=>by
   have:vs.length=1:=by rw [h2];simpa using e1
   obtain ⟨v,rfl⟩:=VJ.1 this;exact hne v rfl
  refine ⟨.tuple xs.toArray, .cy vs,by rw [hmap _ h1,dif_neg hl], .cy _ _ (by simpa using h2) (fun i c x q1 q2=>h3 i c x q1 (by simpa using q2)),hf.2⟩
 ·exact hf.elim
structure sZ (B:Nat) (w w':World):Prop where
 os:w'.os=w.os
 tape:w'.tape=w.tape
 output:w'.output=w.output
 size:w'.heap.size=w.heap.size
 low: ∀b,b<B->w'.heap[b]? = w.heap[b]?
 cells: ∀(b:Nat) ob,w.heap[b]? = some ob->rH ob=false->w'.heap[b]? = some ob
theorem sZ.refl (B:Nat) (w:World):sZ B w w:=⟨rfl,rfl,rfl,rfl,fun _ _=>rfl,fun _ _ h _=>h⟩
theorem sZ.cell {B:Nat} {w w':World} (h:sZ B w w') {b o:Nat} {v:Value} (hv:w.cell? ⟨b,o,none⟩=some v):w'.cell? ⟨b,o,none⟩=some v:=by
 unfold World.cell? at hv ⊢
 cases hw:w.heap[b]? with
 | none=>simp [hw] at hv
 | some ob=>
  cases ob with
  | cells C T fz=>rw [h.cells b _ hw rfl];simpa [hw] using hv
  | _=>simp [hw] at hv
theorem sZ.ra {B:Nat} {w w':World} (h:sZ B w w') {a:AV} {x:Value} (hr:RA D nu o w a x):RA D nu o w' a x:=by
 have hF: ∀b,Fz D nu o w b->Fz D nu o w' b:=fun b hf=>⟨by rw [h.size];exact hf.1,hf.2.1,hf.2.2⟩
 induction hr with
 | undef x=>exact .undef x
 | v x=>exact .v x
 | agg cs xs h1 _ h3 ih=>exact .agg cs xs h1 ih h3
 | cy cs xs h1 _ ih=>exact .cy cs xs h1 ih
 | br z=>exact .br z
 | bz z a=>exact .bz z a
 | aH z rows len b off cap f h1 h2 h3 h4 h5 h6 _ h8 ih=>exact .aH z rows len b off cap f h1 h2 h3 (fun hne=>hF b (h4 hne)) h5 (fun i j row c hr hc=>h.cell (h6 i j row c hr hc)) ih h8
 | vp cs b off f h1 h2 _ h4 ih=>exact .vp cs b off f (hF b h1) (fun j c hc=>h.cell (h2 j c hc)) ih h4
 | ptr id len z row off b h1 h2=>exact .ptr id len z row off b h1 h2
 | vec id len h1 h2=>exact .vec id len h1 h2
 | fn g first caps fi ca h1 h2 _ _ ih1 ih2=>exact .fn g first caps fi ca h1 h2 ih1 ih2
 | full a x h1 _ ih=>exact .full a x h1 ih
 | gu p a x S h0 h1 hc h2 _ ih=>
  have hsame: ∀b,S b->w'.heap[b]? = w.heap[b]? :=fun b hb=>by
   obtain ⟨C,T,k,e⟩:=hc b hb;rw [e];exact h.cells b _ e rfl
  exact .gu p a x S h0 (fun b hb=>hF b (h1 b hb)) (fun b hb=>by rw [hsame b hb];exact hc b hb) (fun w2 hw=>h2 w2 (fun b hb=>(hw b hb).trans (hsame b hb))) ih
 | mp rows b es cl h1 h2 h3 h4 h5 h6 _ ih=>exact .mp rows b es cl (hF b h1) (h.cells b _ h2 rfl) h3 h4 h5 h6 ih
theorem sZ.ro {B:Nat} {w w':World} (h:sZ B w w') (hr:RO D nu o w):RO D nu o w':=
 ⟨fun id ob hid=>by
  rcases hr.obj id ob hid with e|⟨g,cur,hb⟩|⟨g,es,cl,hmp⟩
  ·exact .inl e
  ·exact .inr (.inl ⟨g,cur,h.cells g _ hb.blk rfl,hb.ko,hb.box,hb.vec,hb.z,hb.row,fun i j row c x q1 q2 q3=>h.ra (hb.cell i j row c x q1 q2 q3),hb.one⟩)
  ·exact .inr (.inr ⟨g,es,cl,hmp.tr ((h.cells g _ hmp.blk rfl).trans hmp.blk.symm) (fun h=>h) rfl (fun i j row c x _ _ hr=>h.ra hr)⟩),fun b hb=>hr.up b (by rw [<-h.size];exact hb),hr.sep,fun g T cs hg=>by
  obtain ⟨⟨t,h1⟩,h2,h3⟩:=hr.gl g T cs hg
  exact ⟨⟨t,h.cells g _ h1 rfl⟩,h2,h3⟩⟩
theorem jW {fn:Func} {tmps:Array Value} {R:Ending->World->Prop} {B:Nat}: ∀(rs:List Nat) (w:World),rs.Nodup->(∀x,x∈rs->B<=x∧w.heap[x]? = some (.deferred (some []))) ->
  (∀w',sZ B w w'->(∀b,b∉rs->w'.heap[b]? = w.heap[b]?)-> ∃v,(results fn tmps).run P w' = .ok v w'∧R (.returned v) w')->LeavesInM (WF none) 9 P fn tmps R (rs.map AN) .returning w
 | [],w,_,_,h=>h w (.refl B w) (fun _ _=>rfl)
 | x :: rs,w,hn,hm,h=>by
  obtain ⟨h1,h2⟩:=hm x List.mem_cons_self;have hx:=(List.nodup_cons.1 hn).1;refine ⟨by simp, .inl ⟨x,w.putObj x (.deferred none),rfl,run_takeDeferred h2, ?_⟩⟩;have hs:sZ B w (w.putObj x (.deferred none)):=⟨rfl,rfl,rfl,by simp,fun b hb=>World.putObj_heap_other (by omega),fun b ob hb hc=>(World.putObj_heap_other (fun e=>by rw [e,h2] at hb;cases hb;cases hc)).trans hb⟩;refine jW rs _ (List.nodup_cons.1 hn).2 (fun y hy=> ?_) (fun w' hs' hb'=>h w' ⟨hs'.os.trans hs.os,hs'.tape.trans hs.tape,hs'.output.trans hs.output,hs'.size.trans hs.size,fun b hb=>(hs'.low b hb).trans (hs.low b hb),fun b ob hb hc=>hs'.cells b ob (hs.cells b ob hb hc) hc⟩ (fun b hb=>(hb' b (fun h=>hb (V2 _ h))).trans (World.putObj_heap_other (fun e=>hb (by rw [<-e];exact List.mem_cons_self)))));obtain ⟨q1,q2⟩:=hm y (V2 _ hy);exact ⟨q1,(World.putObj_heap_other (fun e=>hx (by rw [<-e];exact hy))).trans q2⟩
def Hx (P:Program) (n0:Nat) (D0:Nat->Prop) (nu0:Nat->Nat->Value) (o0:List (Option aa)) (w0:World) (hn:o0.length<=n0):WM P where
 n0:=n0
 fix:=fun _=>False
 M:=fun D nu o Z y w=>(y = .no∧(∀b,D b->D0 b)∧(∀b,Z b->b<w.heap.size∧D0 b∧ ¬D b)∧n0<=o.length∧ ∀b,w0.heap.size<=b->D0 b)∧bt nu0 o0 w0 nu o w∧ ∀b,b<w0.heap.size-> ¬owned nu0 o0 b-> ¬Z b
 step:=fun {D D' nu o Z Z' y w nu' o' w'} h hro hm hro' _ hD _ hZ hn'=>by
  obtain ⟨⟨h1,h2,h3,h4,hup⟩,h5,h6⟩:=h
  refine ⟨⟨h1,fun b hb=> ?_,fun b hb=>⟨(hZ b hb).1, ?_,(hZ b hb).2.1⟩,hn',hup⟩,⟨hm.os.trans h5.os,hm.tape.trans h5.tape,hm.output.trans h5.output,U0 h5.size hm.size,fun id len hh=> ?_,fun b hb hno=> ?_⟩,fun b hb hno hz=> ?_⟩
  ·rcases hD b hb with q|q
   ·exact h2 b q
   ·exact (h3 b q).2.1
  ·rcases (hZ b hb).2.2 with q|q|q
   ·exact (h3 b q).2.1
   ·exact h2 b (hro.jO q)
   ·exact hup b (U0 h5.size q)
  ·obtain ⟨q1,q2⟩:=h5.p8 id len hh;have hlt:=gd hh;obtain ⟨q3,q4⟩:=hm.p8 id len (by omega) q1;exact ⟨q3,q4.trans q2⟩
  ·obtain ⟨q1,q2⟩:=h5.keep b hb hno;obtain ⟨q3,q4⟩:=hm.keep b (Nat.lt_of_lt_of_le hb h5.size) q2 (h6 b hb hno);exact ⟨q3.trans q1,q4⟩
  ·rcases (hZ b hz).2.2 with q|q|q
   ·exact h6 b hb hno q
   ·exact (h5.keep b hb hno).2 q
   ·have:=h5.size;omega
 mV:=fun h=>⟨fun b hb=>⟨(h.1.2.2.1 b hb).1,(h.1.2.2.1 b hb).2.2⟩,h.1.2.2.2.1,fun b hb=>hb.elim⟩
 yield:=fun h _ _ _=>by cases h.1.1
theorem RA.wider {D D':Nat->Prop} (hD: ∀b,D' b->D b) {a:AV} {x:Value} (h:RA D' nu o w a x):RA D nu o w a x:=by
 induction h with
 | undef x=>exact .undef x
 | v x=>exact .v x
 | agg cs xs h1 _ h3 ih=>exact .agg cs xs h1 ih h3
 | cy cs xs h1 _ ih=>exact .cy cs xs h1 ih
 | br z=>exact .br z
 | bz z a=>exact .bz z a
 | aH z rows len b off cap f h1 h2 h3 h4 h5 h6 _ h8 ih=>exact .aH z rows len b off cap f h1 h2 h3 (fun hne=>⟨(h4 hne).1,(h4 hne).2.1,hD b (h4 hne).2.2⟩) h5 h6 ih h8
 | vp cs b off f h1 h2 _ h4 ih=>exact .vp cs b off f ⟨h1.1,h1.2.1,hD b h1.2.2⟩ h2 ih h4
 | ptr id len z row off b h1 h2=>exact .ptr id len z row off b h1 h2
 | vec id len h1 h2=>exact .vec id len h1 h2
 | fn g first caps fi ca h1 h2 _ _ ih1 ih2=>exact .fn g first caps fi ca h1 h2 ih1 ih2
 | full a x h1 _ ih=>exact .full a x h1 ih
 | gu p a x S h0 h1 hc h2 _ ih=>exact .gu p a x S h0 (fun b hb=>⟨(h1 b hb).1,(h1 b hb).2.1,hD b (h1 b hb).2.2⟩) hc h2 ih
 | mp rows b es cl h1 h2 h3 h4 h5 h6 _ ih=>exact .mp rows b es cl ⟨h1.1,h1.2.1,hD b h1.2.2⟩ h2 h3 h4 h5 h6 ih
theorem RO.wider {D D':Nat->Prop} (h:RO D' nu o w) (hD: ∀b,D' b->D b):RO D nu o w:=
 ⟨fun id ob hid=>by
  rcases h.obj id ob hid with e|⟨g,cur,hb⟩|⟨g,es,cl,hmp⟩
  ·exact .inl e
  ·exact .inr (.inl ⟨g,cur,hb.blk,hD g hb.ko,hb.box,hb.vec,hb.z,hb.row,fun i j row c x q1 q2 q3=>(hb.cell i j row c x q1 q2 q3).wider hD,hb.one⟩)
  ·exact .inr (.inr ⟨g,es,cl,hmp.tr rfl (hD g) rfl (fun i j row c x _ _ hr=>hr.wider hD)⟩),fun b hb=>hD b (h.up b hb),h.sep,fun g T cs hg=>by
  obtain ⟨⟨t,h1⟩,h2,h3⟩:=h.gl g T cs hg
  exact ⟨⟨t,h1⟩,h2,hD g h3⟩⟩
theorem xK {f:Fr} {D:Nat->Prop} {nu:Nat->Nat->Value} {o:List (Option aa)} {w:World} {args:List AV} {vargs:Array Value} {n:Nat} {y:iW} (hf:f.r=none) (hB:f.B<=w.heap.size) (hro:RO D nu o w) (ha:fE D nu o w args vargs) :
  RS f D nu ⟨args++List.replicate (n - args.length) .undef,o,y⟩ { tmps:=vargs++Array.replicate (n - vargs.size) Go.undef,defers:=[] } w:=by
 have hl:=ha.len;refine ⟨hro,⟨by simp [hl],fun i cc x h1 h2=> ?_⟩,⟨hB,⟨[],List.nodup_nil,rfl,fun x hx=>(by cases hx)⟩,fun l hl=>by rw [hf] at hl;cases hl⟩⟩;simp only at h1 h2
 rcases U6 i args.length with hlt|hge
 ·rw [U5 hlt] at h1;rw [VE (by omega)] at h2;exact ha.at' i cc x h1 h2
 ·rw [Vy hge,List.getElem?_replicate] at h1
  split at h1
  ·cases h1;exact .undef x
  ·cases h1
theorem eV.enter {f:FuncId} {fn:Func} {c:Code} {args:List AV} {Q:AV->List (Option aa)->Prop} (hf:P.funcs[f]? = some fn) (hb:fn.body=some c) (hc:df P f=true) (hok:bq c=true) (hmx:P.follows .mixedOrders=true)
  (h:bS P o.length c ⟨args++List.replicate (fn.ntmps - args.length) .undef,o, .no⟩ (wT P fn.results.toList Q)):eV P f args o Q:=by
 refine ⟨hc,fun D nu w vargs hro ha=>qW (n:=9) (callsIn_of_wp_marks hf hb trivial ?_ rfl)⟩;have hs:RS ⟨w.heap.size,none,fun _=>False⟩ D nu ⟨args++List.replicate (fn.ntmps - args.length) .undef,o, .no⟩ { tmps:=vargs++Array.replicate (fn.ntmps - vargs.size) Go.undef,defers:=[] } w:=xK rfl (UZ _) hro ha
 have fin: ∀(D' Z':Nat->Prop) (s':AS) (a':Act) (w':World) (nu':Nat->Nat->Value),(Hx P o.length D nu o w (UZ _)).M D' nu' s'.o Z' s'.y w'->RS ⟨w.heap.size,none,Z'⟩ D' nu' s' a' w'->lV (kG P s' fn.results.toList) s'.o Q->LeavesInM (WF none) 9 P fn a'.tmps (Df D nu o w Q) a'.defers .returning w':=fun D' Z' s' a' w' nu' h1 h2 h3=>by
  obtain ⟨rs,k1,k2,k3⟩:=h2.iB.marks;rw [k2];refine jW (B:=w.heap.size) rs w' k1 (fun x hx=>⟨(k3 x hx).1,(k3 x hx).2.2⟩) (fun w2 hs2 _=> ?_);obtain ⟨⟨_,hD,_,_⟩,hm,_⟩:=h1;have hF: ∀b,Fz D' nu' s'.o w2 b->Fz D nu' s'.o w2 b:=fun b hb=>⟨hb.1,hb.2.1,hD b hb.2.2⟩;have h2':RS ⟨w.heap.size,none,Z'⟩ D' nu' s' { tmps:=a'.tmps,defers:=[] } w2:=⟨hs2.ro h2.ro,⟨h2.tm.len,fun i c x q1 q2=>hs2.ra (h2.tm.at' i c x q1 q2)⟩,⟨by rw [hs2.size];exact h2.iB.base,⟨[],List.nodup_nil,rfl,fun x hx=>(by cases hx)⟩,fun l hl=>by cases hl⟩⟩;obtain ⟨v,r,q1,q2,q3⟩:=yI h2' h3;exact ⟨v,q1,v,nu',s'.o,r,rfl,⟨hs2.os.trans hm.os,hs2.tape.trans hm.tape,hs2.output.trans hm.output,by rw [hs2.size];exact hm.size,hm.p8,fun b hb hno=>⟨(hs2.low b hb).trans (hm.keep b hb hno).1,(hm.keep b hb hno).2⟩⟩,RO.wider h2'.ro hD,q2.wider hD,q3⟩
 refine wpIn_mono (fl (P:=P) hmx (f:=⟨w.heap.size,none,fun _=>False⟩) (Hx P o.length D nu o w (UZ _)) (fun l hl=>by cases hl) (UZ _) c hok _ _ w D nu (fun _=>False) _ (fun (e:Exit) a' w'=>e ≠ .outgrown∧bodyPostM (WF none) 9 P fn (Df D nu o w Q) e a' w') (fun a w hh=>hh.1 rfl) ⟨⟨rfl,fun _ h=>h,fun _ h=>h.elim,UZ _,hro.up⟩, .refl nu o w,fun _ _ _ h=>h⟩ hs h (fun e D' Z' s' a' w' nu' h1 h2 h3=> ?_)) (fun e a w hh=>hh.2)
 cases e with
 | ret=>exact ⟨by simp [aR.real],fin D' Z' s' a' w' nu' h1 h2 h3⟩
 | normal=>exact ⟨by simp [aR.real],fin D' Z' s' a' w' nu' h1 h2 h3⟩
 | exit id=>exact h3.elim
 | goto l=>exact h3.elim
def jb (o:List (Option aa)) (r0 r:AV):Prop:= ∃n p,fK o n r0=some (p,r)∧p
theorem Oj (x y:Value):jb o (.v x) (.v y)=(x=y):=by
 apply propext
 constructor
 ·rintro ⟨n,p,h1,_⟩
  cases n with
  | zero=>simp [fK] at h1
  | succ n=>simp only [fK,Ve,Vf,AV.v.injEq] at h1;exact h1.2
 ·rintro rfl;exact ⟨1,_,rfl,rfl⟩
theorem jb.of {r0 r:AV} (n:Nat) {p:Prop} (h:fK o n r0=some (p,r)) (hp:p):jb o r0 r:=⟨n,p,h,hp⟩
theorem ah.enter {f:FuncId} {fn:Func} {c:Code} {args:List AV} {r:AV} (hf:P.funcs[f]? = some fn) (hb:fn.body=some c) (hc:df P f=true) (hok:bq c=true) (hmx:P.follows .mixedOrders=true)
  (ha:bp 0 args=true) (hr:r.wf 0=true) (h:bS P 0 c ⟨args++List.replicate (fn.ntmps - args.length) .undef,[], .no⟩ (wT P fn.results.toList (fun r0 o=>jb o r0 r))):ah P f args r:=by
 obtain ⟨_,h2⟩:=eV.enter (o:=[]) hf hb hc hok hmx h;refine ⟨⟨ha,hr⟩,hc,fun D nu w vargs hro hra=>(h2 D nu w vargs hro hra).mono ?_⟩;rintro e w' ⟨v,nu',o',r0,rfl,hm,hro',hra',n,p,hz,hp⟩;have hm':bt nu [] w nu' [] w':=⟨hm.os,hm.tape,hm.output,hm.size,fun id len hh=>by obtain ⟨x,k,_⟩:=hh;simp at k,fun b hb ho=>⟨(hm.keep b hb ho).1,bd _ _⟩⟩;exact ⟨v,nu',[],r,rfl,hm',(.nil _ _ _ hro'.up (hro'.gl.nil (fun _ _ h=>h))),(jj hro' n).1 r0 v p r hz hp hra',rfl,rfl⟩
end
end
section
section
variable {P:Program} {all:List Oper} {n0:Nat} {s:AS} {Q:aR->AS->Prop}
@[go_sem] theorem R2 (t:List AV) (o:List (Option aa)) (y:iW) (k:Nat):(AS.mk t o y).ev (.tmp k)=t.getD k .undef:=rfl
@[go_sem] theorem OU (s:AS) (v:Value):s.ev (.const v) = .v v:=rfl
@[go_sem] theorem QH (s:AS) (f:FuncId):s.ev (.func f) = .fn f [] []:=rfl
@[go_sem] theorem Pk (t:List AV) (o o':List (Option aa)) (y:iW) (d:Nat) (r:AV):(AS.mk t o y).put (some d) r o'=⟨t.set d r,o',y⟩:=rfl
@[go_sem] theorem Pj (t:List AV) (o o':List (Option aa)) (y:iW) (r:AV):(AS.mk t o y).put none r o'=⟨t,o',y⟩:=rfl
@[go_sem] theorem LA (dst:Option Tmp) (op:Op) (ty:TypeId) (pos:String) (aft:Array Edge) (s:AS) (K:AS->Prop) :
  pz P all ⟨dst,op,ty,pos,aft,none⟩ s K=AY P op dst s K:=rfl
@[go_sem] theorem Lz (dst:Option Tmp) (op:Op) (ty:TypeId) (pos:String) (aft:Array Edge) (j:Nat) (want:Bool) (s:AS) (K:AS->Prop) :
  pz P all ⟨dst,op,ty,pos,aft,some (j,want)⟩ s K=sR (jl all s j) want (AY P op dst s K) (K (s.put dst (.v Go.undef) s.o)):=rfl
attribute [go_sem] AY Mc On zy
def eo (P:Program) (all:List Oper) (oo:Oper) (s:AS) (K:AS->Prop):Prop:=match oo.guard with
 | none=>db P oo.op s (fun r=>K (s.put oo.dst r s.o))
 | some (j,want)=>sR (jl all s j) want (db P oo.op s (fun r=>K (s.put oo.dst r s.o))) (K (s.put oo.dst (.v Go.undef) s.o))
@[go_sem] theorem JC (dst:Option Tmp) (op:Op) (ty:TypeId) (pos:String) (aft:Array Edge) (s:AS) (K:AS->Prop) :
  eo P all ⟨dst,op,ty,pos,aft,none⟩ s K=db P op s (fun r=>K (s.put dst r s.o)):=rfl
@[go_sem] theorem JB (dst:Option Tmp) (op:Op) (ty:TypeId) (pos:String) (aft:Array Edge) (j:Nat) (want:Bool) (s:AS) (K:AS->Prop) :
  eo P all ⟨dst,op,ty,pos,aft,some (j,want)⟩ s K=sR (jl all s j) want (db P op s (fun r=>K (s.put dst r s.o))) (K (s.put dst (.v Go.undef) s.o)):=rfl
theorem FO {Q:AS->Prop} (h:Q s):gK P all [] s Q:=h
theorem Mt {oo:Oper} {rest:List Oper} {Q:AS->Prop} (h: ∀K:AS->Prop,(∀s',gK P all rest s' Q->K s')->pz P all oo s K):gK P all (oo :: rest) s Q:=h _ (fun _ h=>h)
theorem zO {dst:Option Tmp} {op:Op} {ty:TypeId} {pos:String} {aft:Array Edge} {Q:AS->Prop} (h: ∀K:AS->Prop,(∀s',Q s'->K s')->wS P op s (fun r o'=>K (s.put dst r o'))):dY P all [⟨dst,op,ty,pos,aft,none⟩] s Q:=h _ (fun _ h=>h)
theorem Jt {oo o2:Oper} {rest:List Oper} {Q:AS->Prop} (h: ∀K:AS->Prop,(∀s',dY P all (o2 :: rest) s' Q->K s')->eo P all oo s K):dY P all (oo :: o2 :: rest) s Q:=by
 have:=h _ (fun _ h=>h)
 unfold eo at this;simp only [dY]
 split at this<;>simp_all
def lW (K:AS->Prop) (Q:aR->AS->Prop):aR->AS->Prop
 | .normal,s=>K s
 | e,s=>Q e s
def uQ (id:Nat) (Q:aR->AS->Prop):aR->AS->Prop
 | .exit i,s=>if i=id then Q .normal s else Q (.exit i) s
 | e,s=>Q e s
def wW (Q:aR->AS->Prop):aR->AS->Prop
 | .goto _,_=>False
 | e,s=>Q e s
theorem xm {K:AS->Prop} (h:K s):lW K Q .normal s:=h
theorem Dz {K:AS->Prop} {i:Nat} (h:Q (.exit i) s):lW K Q (.exit i) s:=h
theorem FQ {K:AS->Prop} (h:Q .ret s):lW K Q .ret s:=h
theorem DA {K:AS->Prop} {i:Nat} (h:Q (.goto i) s):lW K Q (.goto i) s:=h
theorem xg {i:Nat} (h:Q .normal s):uQ i Q .normal s:=h
theorem FI {i:Nat} (h:Q .ret s):uQ i Q .ret s:=h
theorem Dp {i j:Nat} (h:Q (.goto j) s):uQ i Q (.goto j) s:=h
theorem xk (h:Q .normal s):wW Q .normal s:=h
theorem FP (h:Q .ret s):wW Q .ret s:=h
theorem Dw {i:Nat} (h:Q (.exit i) s):wW Q (.exit i) s:=h
theorem zS {id:Nat} {l:List Oper} (h:gK P l l s (Q .normal)):bS P n0 (.region id l.toArray false) s Q:= .inl h
def vL:List Oper->Bool
 | []=>true
 | [_]=>true
 | o :: l=>(match o.op with| .alloc _=>false| .store .. =>false|_=>true)&&vL l
theorem FV {id:Nat} {l:List Oper} (hB:yG l.toArray=true) (_hL:vL l=true) (h:dY P l l s (Q .normal)):bS P n0 (.region id l.toArray true) s Q:= .inl ⟨hB,h⟩
theorem FZ (h:Q .normal s):bS P n0 .skip s Q:=h
theorem JJ {a b:Code} (h: ∀K:AS->Prop,(∀s',bS P n0 b s' Q->K s')->bS P n0 a s (lW K Q)):bS P n0 (.seq a b) s Q:=by
 have:=h _ (fun _ h=>h)
 simp only [bS];refine .inl ?_;exact (congrArg (bS P n0 a s) (by funext e s';cases e<;>rfl)).mpr this
theorem FU {c:Operand} {a b:Code} (h:zq (s.ev c) (bS P n0 a s Q) (bS P n0 b s Q)):bS P n0 (.cond c a b) s Q:=h
theorem DF {id:Nat} {c:Code} (h:bS P n0 c s (uQ id Q)):bS P n0 (.block id c) s Q:=by
 simp only [bS];exact (congrArg (bS P n0 c s) (by funext e s';cases e<;>rfl)).mpr h
theorem DM {c:Code} (h:bS P n0 c s (wW Q)):bS P n0 (.scope c) s Q:=by
 simp only [bS];exact (congrArg (bS P n0 c s) (by funext e s';cases e<;>rfl)).mpr h
theorem FW {id:Nat} (h:Q (.exit id) s):bS P n0 (.exit id) s Q:=h
theorem JH (h:Q .ret s):bS P n0 .ret s Q:=h
theorem DJ {l:Nat} (h:Q .normal s):bS P n0 (.label l) s Q:=h
theorem FX {l:Nat} (h:Q (.goto l) s):bS P n0 (.goto l) s Q:=h
attribute [go_sem] Je Jd Ft Fs C8 wV tu Fo Fm L8 Jb Fk Db Fl Fj wU Oj
attribute [go_sem] AV.st bytesOf u5 BL zF wS db Jy qd xi Du oD qE zH BM xa vd kX tC jD u6 jE u9 Jo Jp kH Jr ib kv QE w9 u4 pA e7 tD BP mr Fe BO FF qc mv nc
 AV.cells? zo jl aa.hl kG AV.wf bp bZ rI tY Dm qH xb vc vb nf oG iX cC
@[go_sem] theorem OH (d:TypeDesc) (k:Value) (x:AV):jF d k x []=some [[.v k,x]]:=rfl
@[go_sem] theorem OG (d:TypeDesc) (k:Value):ky d k []=some none:=rfl
@[go_sem] theorem NQ (ks:List FK) (k:List AV) (x:AV):iE ks k x []=some [[.agg k,x]]:=rfl
@[go_sem] theorem NP (ks:List FK) (k:List AV):fZ ks k []=some none:=rfl
@[go_sem] theorem Qy (b:Bool) (A B:Prop):eJ (!b) A B=eJ b B A:=by cases b<;>rfl
def aJ {ι:Type} (n0:Nat) (S:ι->AS) (mu:ι->Nat) (ok:ι->Prop) (m:Nat) (s2:AS):Prop:= ∃m' s3,Wk n0 s2 s3∧(∃j,ok j∧mu j=m'∧s3=S j)∧m'<m
theorem aJ.mk {ι:Type} {S:ι->AS} {mu:ι->Nat} {ok:ι->Prop} {m:Nat} {s2:AS} (j:ι) (h1:ok j) (h2:mu j<m) (h3:Wk n0 s2 (S j)):aJ n0 S mu ok m s2:=⟨mu j,S j,h3,⟨j,h1,rfl,rfl⟩,h2⟩
theorem kK {ι:Type} {c:Code} (S:ι->AS) (mu:ι->Nat) (ok:ι->Prop) (i0:ι) (s1:AS) (h1:Gs s s1) (h2:Wk n0 s1 (S i0)) (h3:ok i0)
  (h: ∀i,ok i-> ∀K:AS->Prop,(∀s2,aJ n0 S mu ok (mu i) s2->K s2)->bS P n0 c (S i) (lW K Q)):bS P n0 (.loop c) s Q:=by
 show BB n0 (bS P n0 c) s Q;refine ⟨fun m s'=> ∃i,ok i∧mu i=m∧s'=S i,⟨mu i0,s1,S i0,h1,h2,i0,h3,rfl,rfl⟩, ?_⟩;rintro m s' ⟨i,hi,rfl,rfl⟩
 have:=h i hi _ (fun _ h=>h)
 exact (congrArg (bS P n0 c (S i)) (by funext e s2;cases e<;>rfl)).mpr this
def aD (n:Nat) (l:List (Nat×AV)):List AV:=l.foldl (fun t p=>t.set p.1 p.2) (List.replicate n .undef)
theorem lD {ι:Type} {c:Code} {t:List AV} {o:List (Option aa)} {y:iW} (live:ι->List (Nat×AV)) (ob:ι->List (Option aa)) (mu:ι->Nat) (ok:ι->Prop) (i0:ι) (h3:ok i0) (h2:Wk n0 ⟨t,o,y⟩ ⟨aD t.length (live i0),ob i0,y⟩)
  (h: ∀i,ok i-> ∀K:AS->Prop,(∀s2,aJ n0 (fun i=>⟨aD t.length (live i),ob i,y⟩) mu ok (mu i) s2->K s2)->bS P n0 c ⟨aD t.length (live i),ob i,y⟩ (lW K Q)):bS P n0 (.loop c) ⟨t,o,y⟩ Q:=
 kK (fun i=>⟨aD t.length (live i),ob i,y⟩) mu ok i0 _ .refl h2 h3 h
theorem aq {s s':AS} (h1:aW s'.o.length s.t s'.t) (h2:aY s'.o.length s.o s'.o) (h3:n0<=s'.o.length) (h4:s.y=s'.y:=by rfl):Wk n0 s s':=⟨h1,h2,h3,h4⟩
theorem aB {k:Nat} (h:k<9223372036854775807):IntKind.i64.wrap ((k:Int)+1)=((k+1:Nat):Int):=by
 rw [IntKind.wrap_i64];omega
theorem cF {n:Int} (h1: -9223372036854775808<=n) (h2:n<=9223372036854775807):IntKind.i64.wrap n=n:=by
 rw [IntKind.wrap_i64];omega
end
attribute [go_sem] List.getD_cons_zero List.getD_cons_succ List.set_cons_zero List.set_cons_succ List.getElem?_cons_zero List.getElem?_cons_succ List.length_cons List.length_nil List.length_map Option.map_some Option.map_none List.drop_zero List.drop_succ_cons List.take_succ_cons List.take_zero List.map_cons List.map_nil List.cons_append List.nil_append List.append_nil Vv true_and and_true Int.toNat_natCast if_true if_false BEq.rfl Bool.true_beq Bool.false_beq beq_true beq_false Bool.not_true Bool.not_false Bool.and_true Bool.true_and Bool.and_false Bool.false_and VR UZ List.length_replicate Nat.zero_mul Ve implies_true Bool.false_eq_true List.length_append decide_true decide_false beq_self_eq_true bne_self_eq_false Bool.not_not and_self Nat.lt_irrefl List.replicate_succ List.replicate_zero Nat.sub_zero
theorem wD {P:Program} {n0 id:Nat} {l:List Oper} {s:AS} {Q:aR->AS->Prop} (h:dY P l l s (Q .normal)) (hB:yG l.toArray=true:=by kernel_rfl) (hL:vL l=true:=by decide):bS P n0 (.region id l.toArray true) s Q:=FV hB hL h
end
section
mutual
def AV.aV (f:Nat->Nat):AV->AV
 | .undef=> .undef
 | .v x=> .v x
 | .agg cs=> .agg (bw f cs)
 | .cy vs=> .cy (bw f vs)
 | .aH z rows len=> .aH z (bu f rows) len
 | .vp cs=> .vp (bw f cs)
 | .ptr id len z row off=> .ptr (f id) len z row off
 | .vec id len=> .vec (f id) len
 | .fn g fi ca=> .fn g (bw f fi) (bw f ca)
 | .full a=> .full (a.aV f)
 | .gu p a=> .gu p (a.aV f)
 | .mp rows=> .mp (bu f rows)
def bw (f:Nat->Nat):List AV->List AV
 | []=>[]
 | a :: l=>a.aV f :: bw f l
def bu (f:Nat->Nat):List (List AV)->List (List AV)
 | []=>[]
 | r :: l=>bw f r :: bu f l
end
theorem bX (f:Nat->Nat): ∀l:List AV,(bw f l).length=l.length
 | []=>rfl
 | a :: l=>by rw [bw,U9,U9,bX f l]
theorem c9 (f:Nat->Nat): ∀l:List (List AV),(bu f l).length=l.length
 | []=>rfl
 | a :: l=>by rw [bu,U9,U9,c9 f l]
theorem bG (f:Nat->Nat): ∀(l:List AV) (i:Nat),(bw f l)[i]? = (l[i]?).map (AV.aV f)
 | [],i=>by simp [bw]
 | a :: l,0=>by simp [bw]
 | a :: l,i+1=>by simpa [bw] using bG f l i
theorem dp (f:Nat->Nat): ∀(l:List (List AV)) (i:Nat),(bu f l)[i]? = (l[i]?).map (bw f)
 | [],i=>by simp [bu]
 | a :: l,0=>by simp [bu]
 | a :: l,i+1=>by simpa [bu] using dp f l i
def aa.aV (f:Nat->Nat) (ob:aa):aa:=⟨ob.T,ob.z,ob.du,bu f ob.rows⟩
theorem aa.dX (f:Nat->Nat) (ob:aa):(ob.aV f).hl=ob.hl:=by simp [aa.hl,aa.aV,c9]
theorem bY {α β:Type} {g:α->β} {x:Option α} {y:β} (h:x.map g=some y): ∃a,x=some a∧y=g a:=by
 cases x with
 | none=>cases h
 | some a=>exact ⟨a,rfl,(UY h).symm⟩
section
variable {D D':Nat->Prop} {nu nu':Nat->Nat->Value} {o o':List (Option aa)} {w:World} {P:Program}
theorem RA.aV {f:Nat->Nat} (hF: ∀b,Fz D nu o w b->Fz D' nu' o' w b) (hH: ∀id len,c7 o id len->c7 o' (f id) len∧nu' (f id) len=nu id len) {a:AV} {x:Value} (hr:RA D nu o w a x):RA D' nu' o' w (a.aV f) x:=by
 induction hr with
 | undef x=>exact .undef x
 | v x=>exact .v x
 | agg cs xs h1 _ h3 ih=>
  exact .agg _ xs (by rw [bX];exact h1) (fun i c x hc hx=>by
   rw [bG] at hc;obtain ⟨c0,hc0,rfl⟩:=bY hc
   exact ih i c0 x hc0 hx) h3
 | cy cs xs h1 _ ih=>
  exact .cy _ xs (by rw [bX];exact h1) (fun i c x hc hx=>by
   rw [bG] at hc;obtain ⟨c0,hc0,rfl⟩:=bY hc
   exact ih i c0 x hc0 hx)
 | br z=>exact .br z
 | bz z a=>exact .bz z a
 | aH z rows len b off cap g h1 h2 h3 h4 h5 h6 _ h8 ih=>
  have key: ∀(i j:Nat) row c,(bu f rows)[i]? = some row->row[j]? = some c-> ∃row0 c0,rows[i]? = some row0∧row0[j]? = some c0∧c=c0.aV f:=fun i j row c hi hj=>by
   rw [dp] at hi;obtain ⟨row0,hr0,rfl⟩:=bY hi;rw [bG] at hj;obtain ⟨c0,hc0,rfl⟩:=bY hj;exact ⟨row0,c0,hr0,hc0,rfl⟩
  refine .aH z _ len b off cap g (by rw [c9];exact h1) (by rw [c9];exact h2) h3 (fun hne=>hF b (h4 (fun e=>hne (by rw [e];rfl)))) (fun i row hi=> ?_) (fun i j row c hi hj=> ?_) (fun i j row c hi hj=> ?_) (fun i j row c hi hj=> ?_)
  ·rw [dp] at hi;obtain ⟨row0,hr0,rfl⟩:=bY hi;rw [bX];exact h5 i row0 hr0
  ·obtain ⟨row0,c0,q1,q2,rfl⟩:=key i j row c hi hj;exact h6 i j row0 c0 q1 q2
  ·obtain ⟨row0,c0,q1,q2,rfl⟩:=key i j row c hi hj;exact ih i j row0 c0 q1 q2
  ·obtain ⟨row0,c0,q1,q2,rfl⟩:=key i j row c hi hj;exact h8 i j row0 c0 q1 q2
 | vp cs b off g h1 h2 _ h4 ih=>
  have key: ∀(j:Nat) c,(bw f cs)[j]? = some c-> ∃c0,cs[j]? = some c0∧c=c0.aV f:=fun j c hj=>by
   rw [bG] at hj;obtain ⟨c0,hc0,rfl⟩:=bY hj;exact ⟨c0,hc0,rfl⟩
  refine .vp _ b off g (hF b h1) (fun j c hc=> ?_) (fun j c hc=> ?_) (fun j c hc=> ?_)
  ·obtain ⟨c0,q,rfl⟩:=key j c hc;exact h2 j c0 q
  ·obtain ⟨c0,q,rfl⟩:=key j c hc;exact ih j c0 q
  ·obtain ⟨c0,q,rfl⟩:=key j c hc;exact h4 j c0 q
 | ptr id len z row off b h1 h2=>
  obtain ⟨h3,h4⟩:=hH id len h1;exact .ptr (f id) len z row off b h3 (by rw [h4];exact h2)
 | vec id len h1 h2=>
  obtain ⟨h3,h4⟩:=hH id len h1
  have:=RA.vec (D:=D') (nu:=nu') (o:=o') (w:=w) (f id) len h3 (by rw [h4];exact h2)
  rw [h4] at this;exact this
 | fn g first caps fi ca h1 h2 _ _ ih1 ih2=>
  exact .fn g _ _ fi ca (by rw [bX];exact h1) (by rw [bX];exact h2) (fun i c x hc hx=>by
   rw [bG] at hc;obtain ⟨c0,hc0,rfl⟩:=bY hc
   exact ih1 i c0 x hc0 hx) (fun i c x hc hx=>by
   rw [bG] at hc;obtain ⟨c0,hc0,rfl⟩:=bY hc
   exact ih2 i c0 x hc0 hx)
 | full a x h1 _ ih=>exact .full _ x h1 ih
 | gu p a x S h0 h1 hc h2 _ ih=>exact .gu p _ x S h0 (fun b hb=>hF b (h1 b hb)) hc h2 ih
 | mp rows b es cl h1 h2 h3 h4 h5 h6 _ ih=>
  refine .mp _ b es cl (hF b h1) h2 (by rw [c9];exact h3) (fun i row hi=> ?_) h5 h6 (fun i j row c e hi hj he=> ?_)
  ·rw [dp] at hi;obtain ⟨row0,hr0,rfl⟩:=bY hi;rw [bX];exact h4 i row0 hr0
  ·rw [dp] at hi;obtain ⟨row0,hr0,rfl⟩:=bY hi;rw [bG] at hj;obtain ⟨c0,hc0,rfl⟩:=bY hj;exact ih i j row0 c0 e hr0 hc0 he
theorem RA.y9 {f:Nat->Nat} {n:Nat} (hF: ∀b,Fz D nu o w b->Fz D' nu' o' w b) (hH: ∀id len,id<n->c7 o (f id) len->c7 o' id len∧nu' id len=nu (f id) len) {a':AV} {x:Value} (hr:RA D nu o w a' x) :
  ∀a:AV,a.wf n=true->a'=a.aV f->RA D' nu' o' w a x:=by
 induction hr with
 | undef x=>intro a _ e;cases a<;>simp only [AV.aV,reduceCtorEq] at e;exact .undef x
 | v x=>
  intro a _ e;cases a<;>simp only [AV.aV,reduceCtorEq,AV.v.injEq] at e;subst e;exact .v x
 | agg cs xs h1 _ h3 ih=>
  intro a ha e;cases a<;>simp only [AV.aV,reduceCtorEq,AV.agg.injEq] at e;rename_i ds;subst e;rw [bX] at h1;refine .agg ds xs h1 (fun i c x hc hx=>ih i (c.aV f) x (by rw [bG,hc];rfl) hx c ?_ rfl) h3;simp only [AV.wf] at ha;exact bO ha hc
 | cy cs xs h1 _ ih=>
  intro a ha e;cases a<;>simp only [AV.aV,reduceCtorEq,AV.cy.injEq] at e;rename_i ds;subst e;rw [bX] at h1;refine .cy ds xs h1 (fun i c x hc hx=>ih i (c.aV f) x (by rw [bG,hc];rfl) hx c ?_ rfl);simp only [AV.wf] at ha;exact bO ha hc
 | br z=>
  intro a _ e
  cases a with
  | aH z' rows' len'=>
   simp only [AV.aV,AV.aH.injEq] at e;obtain ⟨rfl,e,rfl⟩:=e
   cases rows' with
   | nil=>exact .br _
   | cons r l=>simp [bu] at e
  | _=>simp [AV.aV] at e
 | bz z ad=>
  intro a _ e
  cases a with
  | aH z' rows' len'=>
   simp only [AV.aV,AV.aH.injEq] at e;obtain ⟨rfl,e,rfl⟩:=e
   cases rows' with
   | nil=>exact .bz _ _
   | cons r l=>simp [bu] at e
  | _=>simp [AV.aV] at e
 | aH z rows len b off cap g h1 h2 h3 h4 h5 h6 _ h8 ih=>
  intro a ha e;cases a<;>simp only [AV.aV,reduceCtorEq,AV.aH.injEq] at e;rename_i z' rows' len';obtain ⟨rfl,rfl,rfl⟩:=e;rw [c9] at h1 h2;simp only [AV.wf] at ha
  have up: ∀(i:Nat) row,rows'[i]? = some row->(bu f rows')[i]? = some (bw f row):=fun i row h=>by rw [dp,h];rfl
  have upj: ∀(row:List AV) (j:Nat) c,row[j]? = some c->(bw f row)[j]? = some (c.aV f):=fun row j c h=>by rw [bG,h];rfl
  refine .aH _ rows' _ b off cap g h1 h2 h3 (fun hne=>hF b (h4 (fun e=>hne ?_))) (fun i row hi=> ?_) (fun i j row c hi hj=>h6 i j _ _ (up i row hi) (upj row j c hj)) (fun i j row c hi hj=>ih i j _ _ (up i row hi) (upj row j c hj) c (bO (gT ha hi) hj) rfl) (fun i j row c hi hj=>h8 i j _ _ (up i row hi) (upj row j c hj))
  ·cases rows' with
   | nil=>rfl
   | cons r l=>simp [bu] at e
  ·have:=h5 i _ (up i row hi);rw [bX] at this;exact this
 | vp cs b off g h1 h2 _ h4 ih=>
  intro a ha e;cases a<;>simp only [AV.aV,reduceCtorEq,AV.vp.injEq] at e;rename_i ds;subst e;simp only [AV.wf] at ha
  have up: ∀(j:Nat) c,ds[j]? = some c->(bw f ds)[j]? = some (c.aV f):=fun j c h=>by rw [bG,h];rfl
  exact .vp ds b off g (hF b h1) (fun j c hc=>h2 j _ (up j c hc)) (fun j c hc=>ih j _ (up j c hc) c (bO ha hc) rfl) (fun j c hc=>h4 j _ (up j c hc))
 | ptr id len z row off b h1 h2=>
  intro a ha e;cases a<;>simp only [AV.aV,reduceCtorEq,AV.ptr.injEq] at e;rename_i id' len' z' row' off';obtain ⟨rfl,rfl,rfl,rfl,rfl⟩:=e;simp only [AV.wf,decide_eq_true_eq] at ha;obtain ⟨h3,h4⟩:=hH id' _ ha h1;exact .ptr id' _ _ _ _ b h3 (by rw [h4];exact h2)
 | vec id len h1 h2=>
  intro a ha e;cases a<;>simp only [AV.aV,reduceCtorEq,AV.vec.injEq] at e;rename_i id' len';obtain ⟨rfl,rfl⟩:=e;simp only [AV.wf,decide_eq_true_eq] at ha;obtain ⟨h3,h4⟩:=hH id' _ ha h1
  have:=RA.vec (D:=D') (nu:=nu') (o:=o') (w:=w) id' len h3 (by rw [h4];exact h2)
  rw [h4] at this;exact this
 | fn g first caps fi ca h1 h2 _ _ ih1 ih2=>
  intro a ha e;cases a<;>simp only [AV.aV,reduceCtorEq,AV.fn.injEq] at e;rename_i g' fi' ca';obtain ⟨rfl,rfl,rfl⟩:=e;rw [bX] at h1 h2;simp only [AV.wf,VS] at ha;exact .fn _ fi' ca' fi ca h1 h2 (fun i c x hc hx=>ih1 i (c.aV f) x (by rw [bG,hc];rfl) hx c (bO ha.1 hc) rfl) (fun i c x hc hx=>ih2 i (c.aV f) x (by rw [bG,hc];rfl) hx c (bO ha.2 hc) rfl)
 | full b x h1 _ ih=>
  intro a ha e;cases a<;>simp only [AV.aV,reduceCtorEq,AV.full.injEq] at e;rename_i b';simp only [AV.wf] at ha;exact .full b' x h1 (ih b' ha e)
 | gu p b x S h0 h1 hc h2 _ ih=>
  intro a ha e;cases a<;>simp only [AV.aV,reduceCtorEq,AV.gu.injEq] at e;rename_i p' b';obtain ⟨rfl,e⟩:=e;simp only [AV.wf] at ha;exact .gu _ b' x S h0 (fun b hb=>hF b (h1 b hb)) hc h2 (ih b' ha e)
 | mp rows b es cl h1 h2 h3 h4 h5 h6 _ ih=>
  intro a ha e;cases a<;>simp only [AV.aV,reduceCtorEq,AV.mp.injEq] at e;rename_i rows';subst e;rw [c9] at h3;simp only [AV.wf] at ha
  have up: ∀(i:Nat) row,rows'[i]? = some row->(bu f rows')[i]? = some (bw f row):=fun i row h=>by rw [dp,h];rfl
  have upj: ∀(row:List AV) (j:Nat) c,row[j]? = some c->(bw f row)[j]? = some (c.aV f):=fun row j c h=>by rw [bG,h];rfl
  exact .mp rows' b es cl (hF b h1) h2 h3 (fun i row hi=>by have:=h4 i _ (up i row hi);rw [bX] at this;exact this) h5 h6 (fun i j row c e hi hj he=>ih i j _ _ e (up i row hi) (upj row j c hj) he c (bO (gT ha hi) hj) rfl)
def sig (ids:List Nat) (n k:Nat):Nat:=if k<ids.length then ids.getD k 0 else n+(k - ids.length)
def dW (f:Nat->Nat):List Nat->List (Option aa)->List (Option aa)->List (Option aa)
 | i :: ids,x :: l,o=>dW f ids l (o.set i (x.map (aa.aV f)))
 | [],l,o=>o++l.map (Option.map (aa.aV f))
 | _ :: _,[],o=>o
theorem j5 (f:Nat->Nat): ∀(ids:List Nat) (l o:List (Option aa)) (j:Nat),j∉ids->j<o.length->(dW f ids l o)[j]? = o[j]?
 | [],l,o,j,_,hj=>by rw [dW,List.getElem?_append_left hj]
 | i :: ids,x :: l,o,j,hn,hj=>by
  rw [dW,j5 f ids l _ j (fun h=>hn (V2 _ h)) (by simpa using hj),List.getElem?_set_ne (fun e=>hn (by rw [e];exact V4))]
 | _ :: _,[],_,_,_,_=>by rw [dW]
theorem wa (f:Nat->Nat): ∀(ids:List Nat) (l o:List (Option aa)),ids.Nodup->(∀i∈ids,i<o.length)-> ∀(k i:Nat) (x:Option aa),ids[k]? = some i->l[k]? = some x->(dW f ids l o)[i]? = some (x.map (aa.aV f))
 | [],l,o,_,_,k,i,x,h,_=>by simp at h
 | j :: ids,[],o,_,_,k,i,x,_,h=>by simp at h
 | j :: ids,y :: l,o,hn,hb,0,i,x,h1,h2=>by
  simp at h1 h2;subst h1;subst h2;rw [dW,j5 f ids l _ j (V5.1 hn).1 (by simpa using hb j V4),List.getElem?_set_self (hb j V4)]
 | j :: ids,y :: l,o,hn,hb,k+1,i,x,h1,h2=>by
  rw [dW];exact wa f ids l _ (V5.1 hn).2 (fun a ha=>by simpa using hb a (V2 _ ha)) k i x (by simpa using h1) (by simpa using h2)
theorem sh (f:Nat->Nat): ∀(ids:List Nat) (l o:List (Option aa)) (j:Nat),ids.length<=l.length->(dW f ids l o)[o.length+j]? = (l[ids.length+j]?).map (Option.map (aa.aV f))
 | [],l,o,j,_=>by rw [dW,List.getElem?_append_right (by omega)];simp
 | i :: ids,x :: l,o,j,h=>by
  have:=sh f ids l (o.set i (x.map (aa.aV f))) j (by simpa using h)
  rw [dW];rw [List.length_set] at this;rw [this]
  congr 1
  rw [U9,show ids.length+1+j=(ids.length+j)+1 by omega,List.getElem?_cons_succ]
 | _ :: _,[],_,_,h=>by simp at h
theorem lJ: ∀(ids:List Nat),ids.Nodup-> ∀(k i:Nat),ids[k]? = some i->ids.idxOf i=k
 | [],_,k,i,h=>by simp at h
 | j :: ids,hn,0,i,h=>by simp at h;subst h;simp
 | j :: ids,hn,k+1,i,h=>by
  have h':ids[k]? = some i:=by simpa using h
  have hne:j≠i:=fun e=>(V5.1 hn).1 (by rw [e];exact VD h');rw [List.idxOf_cons,lJ ids (V5.1 hn).2 k i h',beq_eq_false_iff_ne.2 hne];rfl
theorem rz {o0:List (Option aa)} (ids:List Nat) (hro:RO D nu o w) (hnd:ids.Nodup) (ho:ids.map (fun i=>o[i]?)=o0.map (fun x=>some (x.map (aa.aV (sig ids o.length)))))
  (hwo: ∀(k:Nat) ob,o0[k]? = some (some ob)->bZ ids.length ob.rows=true) :
  RO (fun b=>D b∧ ¬(b<w.heap.size∧ ∃id ob,id∉ids∧o[id]? = some (some ob)∧b9 (nu id ob.hl)=some b)) (fun k len=>nu (sig ids o.length k) len) o0 w∧(∀b,owned (fun k len=>nu (sig ids o.length k) len) o0 b->owned nu o b) ∧
   (∀b,Fz D nu o w b->Fz (fun b=>D b∧ ¬(b<w.heap.size∧ ∃id ob,id∉ids∧o[id]? = some (some ob)∧b9 (nu id ob.hl)=some b)) (fun k len=>nu (sig ids o.length k) len) o0 w b) ∧
   (∀id len,id<ids.length->c7 o (sig ids o.length id) len->c7 o0 id len∧nu (sig ids o.length id) len=nu (sig ids o.length id) len) ∧
   ∀(k:Nat) ob,o0[k]? = some (some ob)-> ∃i,ids[k]? = some i∧sig ids o.length k=i∧o[i]? = some (some (ob.aV (sig ids o.length))):=by
 have hlen:o0.length=ids.length:=by have:=congrArg List.length ho;simpa using this.symm
 have hget: ∀(k i:Nat),ids[k]? = some i-> ∃x,o0[k]? = some x∧o[i]? = some (x.map (aa.aV (sig ids o.length))):=fun k i hk=>by
  have h1:=congrArg (fun l=>l[k]?) ho;simp only [List.getElem?_map,hk,VB] at h1
  have hlt:k<o0.length:=by rw [hlen];exact (U4.1 hk).1
  rw [Vi hlt,VB] at h1;exact ⟨_,Vi hlt,UY h1⟩
 have hb: ∀i∈ids,i<o.length:=fun i hi=>by
  obtain ⟨k,hk⟩:=Vr hi;obtain ⟨x,_,hx⟩:=hget k i hk;exact (U4.1 hx).1
 have sigk: ∀(k i:Nat),ids[k]? = some i->sig ids o.length k=i:=fun k i hk=>by
  have hlt:=(U4.1 hk).1;rw [sig,if_pos hlt,getD_some hk]
 generalize hs:sig ids o.length=σ at *
 let out:Nat->Prop:=fun b=>b<w.heap.size∧ ∃id ob,id∉ids∧o[id]? = some (some ob)∧b9 (nu id ob.hl)=some b
 let D0:Nat->Prop:=fun b=>D b∧ ¬out b
 let nu0:Nat->Nat->Value:=fun k len=>nu (σ k) len
 have obj0: ∀(k:Nat) ob,o0[k]? = some (some ob)-> ∃i,ids[k]? = some i∧σ k=i∧o[i]? = some (some (ob.aV σ)):=fun k ob hk=>by
  have hlt:k<ids.length:=by rw [<-hlen];exact (U4.1 hk).1
  have e:=Vi hlt;obtain ⟨x,q1,q2⟩:=hget k _ e;rw [hk] at q1;cases q1;exact ⟨_,e,sigk k _ e,q2⟩
 have own0: ∀b,owned nu0 o0 b->owned nu o b:=fun b ⟨k,ob,h1,h2⟩=>by
  obtain ⟨i,q1,q2,q3⟩:=obj0 k ob h1;refine ⟨i,_,q3, ?_⟩;rw [aa.dX, <- q2];exact h2
 have own0_out: ∀b,owned nu0 o0 b-> ¬out b:=fun b ⟨k,ob,h1,h2⟩ ⟨hlt,id,ob',hn,h3,h4⟩=>by
  obtain ⟨i,q1,q2,q3⟩:=obj0 k ob h1;have hne:i≠id:=fun e=>hn (by rw [<-e];exact VD q1);refine hro.sep i id _ _ b q3 h3 hne ?_ h4;rw [aa.dX, <- q2];exact h2
 have fz0: ∀b,Fz D nu o w b->Fz D0 nu0 o0 w b:=fun b hf=>⟨hf.1,fun ho=>hf.2.1 (own0 b ho),hf.2.2,fun ⟨_,id,ob,_,h3,h4⟩=>hf.2.1 ⟨id,ob,h3,h4⟩⟩
 have hdr0: ∀id len,id<ids.length->c7 o (σ id) len->c7 o0 id len∧nu0 id len=nu (σ id) len:=fun k len hk hh=>by
  refine ⟨?_,rfl⟩;have e:=Vi hk;obtain ⟨x,q1,q2⟩:=hget k _ e;obtain ⟨y,r1,r2⟩:=hh;rw [sigk k _ e,q2] at r1;cases r1;refine ⟨x,q1,fun ob hx=> ?_⟩;subst hx
  have:=r2 _ rfl
  rwa [aa.dX] at this
 have ro0:RO D0 nu0 o0 w:=by
  refine ⟨fun k ob hk=> ?_,fun b hlt=>⟨hro.up b hlt,fun ho=>by have:=ho.1;omega⟩,fun k k' ob ob' b h1 h2 hne h3 h4=> ?_,hro.gl.fz (fun b hf=>⟨rfl,fz0 b hf⟩)⟩
  ·obtain ⟨i,q1,q2,q3⟩:=obj0 k ob hk
   rcases hro.obj i _ q3 with ⟨e1,e2,e3⟩|⟨g,cur,hr⟩|⟨g,es,cl,hmp⟩
   ·refine .inl ⟨e1, ?_, ?_⟩
    ·have:(bu σ ob.rows).length=0:=by rw [show bu σ ob.rows=[] from e2];rfl
     rw [c9] at this;exact List.eq_nil_of_length_eq_zero this
    ·show nu (σ k) 0=_;rw [q2];exact e3
   ·have hbk:b9 (nu i (ob.aV σ).hl)=some g:=hr.bg;have hg:D0 g:=⟨hr.ko,own0_out g ⟨k,ob,hk,by show b9 (nu (σ k) _)=_;rw [q2, <- aa.dX σ];exact hbk⟩⟩
    have hup: ∀(j:Nat) row,ob.rows[j]? = some row->(ob.aV σ).rows[j]? = some (bw σ row):=fun j row hj=>by show (bu σ ob.rows)[j]? = _;rw [dp,hj];rfl
    have hupc: ∀(row:List AV) (j:Nat) c,row[j]? = some c->(bw σ row)[j]? = some (c.aV σ):=fun row j c hj=>by rw [bG,hj];rfl
    refine .inr (.inl ⟨g,cur,hr.blk,hg,fun e=> ?_,fun e=> ?_,hr.z,fun j row hj=> ?_,fun j j' row c x h1 h2 h3=> ?_,fun j j' row c x h1 h2 h3=>hr.one j j' _ _ x (hup j row h1) (hupc row j' c h2) h3⟩)
    ·obtain ⟨p1,p2,p3⟩:=hr.box e
     refine ⟨?_, ?_,p3⟩
     ·show nu (σ k) 0=_;rw [q2];exact p1
     ·have:(bu σ ob.rows).length=1:=p2
      rwa [c9] at this
    ·obtain ⟨cap,p1,p2,p3,p4⟩:=hr.vec e;have el:(ob.aV σ).rows.length=ob.rows.length:=c9 σ ob.rows;rw [el] at p1 p2;refine ⟨cap, ?_,p2,p3,p4⟩;show nu (σ k) _=_;rw [q2];exact p1
    ·have:=hr.row j _ (hup j row hj)
     rw [bX] at this;exact this
    ·exact (hr.cell j j' _ _ x (hup j row h1) (hupc row j' c h2) h3).y9 (f:=σ) (n:=ids.length) fz0 hdr0 c (bO (gT (hwo k ob hk) h1) h2) rfl
   ·have hbk:b9 (nu i (ob.aV σ).hl)=some g:=hmp.bg;have hg:D0 g:=⟨hmp.ko,own0_out g ⟨k,ob,hk,by show b9 (nu (σ k) _)=_;rw [q2, <- aa.dX σ];exact hbk⟩⟩;refine .inr (.inr ⟨g,es,cl,hmp.rows rfl hg (by show nu (σ k) 0=_;rw [q2]) rfl rfl (c9 σ ob.rows).symm (fun j row hj=>⟨bw σ row,by show (bu σ ob.rows)[j]? = _;rw [dp,hj];rfl,(bX σ row).symm,fun j' c hc=>⟨c.aV σ,by rw [bG,hc];rfl,fun x hx=>hx.y9 (f:=σ) (n:=ids.length) fz0 hdr0 c (bO (gT (hwo k ob hk) hj) hc) rfl⟩⟩)⟩)
  ·obtain ⟨i,q1,q2,q3⟩:=obj0 k ob h1;obtain ⟨i',q1',q2',q3'⟩:=obj0 k' ob' h2;have hii:i≠i':=fun e=>hne (by rw [<-lJ ids hnd k i q1, <- lJ ids hnd k' i' q1',e])
   refine hro.sep i i' _ _ b q3 q3' hii ?_ ?_
   ·rw [aa.dX, <- q2];exact h3
   ·rw [aa.dX, <- q2'];exact h4
 exact ⟨ro0,own0,fz0,hdr0,obj0⟩
theorem eV.frame {f:FuncId} {args0 args:List AV} {o0:List (Option aa)} {Q:AV->List (Option aa)->Prop} (ids:List Nat) (h:eV P f args0 o0 Q) (hnd:ids.Nodup)
  (ho:ids.map (fun i=>o[i]?)=o0.map (fun x=>some (x.map (aa.aV (sig ids o.length)))))
  (hargs:args=bw (sig ids o.length) args0) (hwa:bp ids.length args0=true) (hwo: ∀(k:Nat) ob,o0[k]? = some (some ob)->bZ ids.length ob.rows=true) :
  eV P f args o (fun r o'=> ∃r0 o1,Q r0 o1∧r=r0.aV (sig ids o.length)∧o'=dW (sig ids o.length) ids o1 o):=by
 obtain ⟨hc,hq⟩:=h;refine ⟨hc,fun D nu w vargs hro hra=> ?_⟩;subst hargs;obtain ⟨ro0,own0,fz0,hdr0,obj0⟩:=rz ids hro hnd ho hwo
 have hlen:o0.length=ids.length:=by have:=congrArg List.length ho;simpa using this.symm
 have hget: ∀(k i:Nat),ids[k]? = some i-> ∃x,o0[k]? = some x∧o[i]? = some (x.map (aa.aV (sig ids o.length))):=fun k i hk=>by
  have h1:=congrArg (fun l=>l[k]?) ho;simp only [List.getElem?_map,hk,VB] at h1
  have hlt:k<o0.length:=by rw [hlen];exact (U4.1 hk).1
  rw [Vi hlt,VB] at h1;exact ⟨_,Vi hlt,UY h1⟩
 have hb: ∀i∈ids,i<o.length:=fun i hi=>by
  obtain ⟨k,hk⟩:=Vr hi;obtain ⟨x,_,hx⟩:=hget k i hk;exact (U4.1 hx).1
 have sigk: ∀(k i:Nat),ids[k]? = some i->sig ids o.length k=i:=fun k i hk=>by
  have hlt:=(U4.1 hk).1;rw [sig,if_pos hlt,getD_some hk]
 have sign: ∀k,ids.length<=k->sig ids o.length k=o.length+(k - ids.length):=fun k hk=>by rw [sig,if_neg (by omega)]
 generalize hs:sig ids o.length=σ at *
 let out:Nat->Prop:=fun b=>b<w.heap.size∧ ∃id ob,id∉ids∧o[id]? = some (some ob)∧b9 (nu id ob.hl)=some b
 let D0:Nat->Prop:=fun b=>D b∧ ¬out b
 let nu0:Nat->Nat->Value:=fun k len=>nu (σ k) len
 have own0_out: ∀b,owned nu0 o0 b-> ¬out b:=fun b ⟨k,ob,h1,h2⟩ ⟨hlt,id,ob',hn,h3,h4⟩=>by
  obtain ⟨i,q1,q2,q3⟩:=obj0 k ob h1;have hne:i≠id:=fun e=>hn (by rw [<-e];exact VD q1);refine hro.sep i id _ _ b q3 h3 hne ?_ h4;rw [aa.dX, <- q2];exact h2
 have ra0:fE D0 nu0 o0 w args0 vargs:=⟨by have:=hra.len;rwa [bX] at this,fun i c x hi hx=>
  (hra.at' i (c.aV σ) x (by rw [bG,hi];rfl) hx).y9 (f:=σ) (n:=ids.length) fz0 hdr0 c (bO hwa hi) rfl⟩
 refine (hq D0 nu0 w vargs ro0 ra0).mono ?_;rintro e w' ⟨v,nu1,o1,r0,rfl,hm,ro1,ra1,hQ⟩
 have hle:ids.length<=o1.length:=by
  rcases Nat.eq_zero_or_pos ids.length with q|q
  ·omega
  ·have e:=Vi (show ids.length - 1<o0.length by omega);obtain ⟨h1,_⟩:=hm.p8 (ids.length - 1) 0 ⟨_,e,fun _ _=>Nat.zero_le _⟩
   have:=gd h1
   omega
 let nu':Nat->Nat->Value:=fun id len=>if id∈ids then nu1 (ids.idxOf id) len else if id<o.length then nu id len else nu1 (ids.length+(id - o.length)) len
 have nu_id: ∀(k i:Nat) len,ids[k]? = some i->nu' i len=nu1 k len:=fun k i len hk=>by
  show (if _ then _ else _)=_;rw [if_pos (VD hk),lJ ids hnd k i hk]
 have nu_old: ∀id len,id∉ids->id<o.length->nu' id len=nu id len:=fun id len h1 h2=>by
  show (if _ then _ else _)=_;rw [if_neg h1,if_pos h2]
 have nu_sig: ∀k len,nu' (σ k) len=nu1 k len:=fun k len=>by
  rcases U6 k ids.length with q|q
  ·have e:=Vi q;rw [sigk k _ e];exact nu_id k _ len e
  ·rw [sign k q];show (if _ then _ else _)=_;rw [if_neg (fun hmem=>by have:=hb _ hmem;omega),if_neg (by omega)]
   congr 1;omega
 have o_sig: ∀k x,o1[k]? = some x->(dW σ ids o1 o)[σ k]? = some (x.map (aa.aV σ)):=fun k x hk=>by
  rcases U6 k ids.length with q|q
  ·have e:=Vi q;rw [sigk k _ e];exact wa σ ids o1 o hnd hb k _ x e hk
  ·rw [sign k q,sh σ ids o1 o _ hle,show ids.length+(k - ids.length)=k by omega,hk];rfl
 
 have parts: ∀id x,(dW σ ids o1 o)[id]? = some x->(∃k y,id=σ k∧o1[k]? = some y∧x=y.map (aa.aV σ))∨(id∉ids∧id<o.length∧o[id]? = some x):=fun id x hx=>by
  rcases U6 id o.length with q|q
  ·by_cases hmem:id∈ids
   ·obtain ⟨k,hk⟩:=Vr hmem
    have hk1:k<o1.length:=by have:=(U4.1 hk).1;omega
    have:=wa σ ids o1 o hnd hb k id _ hk (Vi hk1)
    rw [this] at hx;exact .inl ⟨k,_,(sigk k id hk).symm,Vi hk1,(UY hx).symm⟩
   ·rw [j5 σ ids o1 o id hmem q] at hx;exact .inr ⟨hmem,q,hx⟩
  ·obtain ⟨j,rfl⟩: ∃j,id=o.length+j:=⟨id - o.length,by omega⟩;rw [sh σ ids o1 o j hle] at hx;obtain ⟨y,hy,rfl⟩:=bY hx;exact .inl ⟨ids.length+j,y,by rw [sign _ (by omega)];omega,hy,rfl⟩
 have hF1: ∀b,Fz D0 nu1 o1 w' b->Fz D nu' (dW σ ids o1 o) w' b:=fun b hf=>⟨hf.1,fun ⟨id,ob,h1,h2⟩=>by
  rcases parts id _ h1 with ⟨k,y,rfl,hy,e⟩|⟨h3,h4,h5⟩
  ·obtain ⟨ob0,rfl,rfl⟩:=bY (VM.2 (by obtain ⟨a,ha1,ha2⟩:=VM.1 e.symm;exact ⟨a,ha1,ha2⟩));rw [aa.dX,nu_sig] at h2;exact hf.2.1 ⟨k,ob0,hy,h2⟩
  ·rw [nu_old id _ h3 h4] at h2
   exact hf.2.2.2 ⟨hro.a6 ⟨id,ob,h5,h2⟩,id,ob,h3,h5,h2⟩,hf.2.2.1⟩
 have hH1: ∀id len,c7 o1 id len->c7 (dW σ ids o1 o) (σ id) len∧nu' (σ id) len=nu1 id len:=fun k len ⟨x,h1,h2⟩=>by
  refine ⟨⟨_,o_sig k x h1,fun y hy=> ?_⟩,nu_sig k len⟩;obtain ⟨z,rfl,rfl⟩:=VM.1 hy;rw [aa.dX];exact h2 z rfl
 have hmono:bt nu o w nu' (dW σ ids o1 o) w':=by
  refine ⟨hm.os,hm.tape,hm.output,hm.size,fun id len hh=> ?_,fun b hlt hno=> ?_⟩
  ·have hlt:=gd hh
   by_cases hmem:id∈ids
   ·obtain ⟨k,hk⟩:=Vr hmem;have hkl:=(U4.1 hk).1;obtain ⟨g1,_⟩:=hdr0 k len hkl (by rw [sigk k id hk];exact hh);obtain ⟨g3,g4⟩:=hm.p8 k len g1;obtain ⟨g5,g6⟩:=hH1 k len g3;rw [sigk k id hk] at g5 g6;exact ⟨g5,by rw [g6,g4];show nu (σ k) len=_;rw [sigk k id hk]⟩
   ·refine ⟨?_,nu_old id len hmem hlt⟩;obtain ⟨x,h1,h2⟩:=hh;exact ⟨x,by rw [j5 σ ids o1 o id hmem hlt];exact h1,h2⟩
  ·have hno0: ¬owned nu0 o0 b:=fun ho=>hno (own0 b ho);obtain ⟨g1,g2⟩:=hm.keep b hlt hno0;refine ⟨g1,fun ⟨id,ob,h1,h2⟩=> ?_⟩
   rcases parts id _ h1 with ⟨k,y,rfl,hy,e⟩|⟨h3,h4,h5⟩
   ·obtain ⟨ob0,rfl,rfl⟩:=VM.1 e.symm;rw [aa.dX,nu_sig] at h2;exact g2 ⟨k,ob0,hy,h2⟩
   ·rw [nu_old id _ h3 h4] at h2;exact hno ⟨id,ob,h5,h2⟩
 refine ⟨v,nu',dW σ ids o1 o,r0.aV σ,rfl,hmono, ?_,ra1.aV hF1 hH1,r0,o1,hQ,rfl,rfl⟩
 refine ⟨fun id ob hid=> ?_,fun b hlt=>hro.up b (Nat.le_trans hm.size hlt),fun id id' ob ob' b h1 h2 hne h3 h4=> ?_,hro.gl.mono hmono (fun _ _ h=>h)⟩
 ·rcases parts id _ hid with ⟨k,y,rfl,hy,e⟩|⟨h3,h4,h5⟩
  ·obtain ⟨ob0,rfl,rfl⟩:=VM.1 e.symm
   rcases ro1.obj k ob0 hy with ⟨e1,e2,e3⟩|⟨g,cur,hr⟩|⟨g,es,cl,hmp⟩
   ·exact .inl ⟨e1,by show bu σ ob0.rows=[];rw [e2];rfl,by rw [nu_sig];exact e3⟩
   ·have el:(ob0.aV σ).rows.length=ob0.rows.length:=c9 σ ob0.rows
    have key: ∀(i j:Nat) row c,(ob0.aV σ).rows[i]? = some row->row[j]? = some c-> ∃row0 c0,ob0.rows[i]? = some row0∧row0[j]? = some c0∧c=c0.aV σ:=fun i j row c hi hj=>by
     have hi':(bu σ ob0.rows)[i]? = some row:=hi;rw [dp] at hi';obtain ⟨row0,hr0,rfl⟩:=bY hi';rw [bG] at hj;obtain ⟨c0,hc0,rfl⟩:=bY hj;exact ⟨row0,c0,hr0,hc0,rfl⟩
    refine .inr (.inl ⟨g,cur,hr.blk,hr.ko.1,fun e=> ?_,fun e=> ?_,hr.z,fun i row hi=> ?_,fun i j row c x g1 g2 g3=> ?_,fun i j row c x g1 g2 g3=> ?_⟩)
    ·obtain ⟨p1,p2,p3⟩:=hr.box e;exact ⟨by rw [nu_sig];exact p1,by rw [el];exact p2,p3⟩
    ·obtain ⟨cap,p1,p2,p3,p4⟩:=hr.vec e;exact ⟨cap,by rw [nu_sig,el];exact p1,by rw [el];exact p2,p3,p4⟩
    ·have hi':(bu σ ob0.rows)[i]? = some row:=hi;rw [dp] at hi';obtain ⟨row0,hr0,rfl⟩:=bY hi';rw [bX];exact hr.row i row0 hr0
    ·obtain ⟨row0,c0,q1,q2,rfl⟩:=key i j row c g1 g2;exact (hr.cell i j row0 c0 x q1 q2 g3).aV hF1 hH1
    ·obtain ⟨row0,c0,q1,q2,rfl⟩:=key i j row c g1 g2;exact hr.one i j row0 c0 x q1 q2 g3
   ·refine .inr (.inr ⟨g,es,cl,hmp.rows rfl hmp.ko.1 (nu_sig k 0) rfl rfl (c9 σ ob0.rows) (fun i row hi=> ?_)⟩);have hi':(bu σ ob0.rows)[i]? = some row:=hi;rw [dp] at hi';obtain ⟨row0,hr0,rfl⟩:=bY hi';refine ⟨row0,hr0,bX σ row0,fun j c hc=> ?_⟩;rw [bG] at hc;obtain ⟨c0,hc0,rfl⟩:=bY hc;exact ⟨c0,hc0,fun x hx=>hx.aV hF1 hH1⟩
  ·rcases hro.obj id ob h5 with ⟨e1,e2,e3⟩|⟨g,cur,hr⟩|⟨g,es,cl,hmp⟩
   ·exact .inl ⟨e1,e2,by rw [nu_old id _ h3 h4];exact e3⟩
   ·have hbk:=hr.bg;have hlt:g<w.heap.size:=(U2.1 hr.blk).1;have hno0: ¬owned nu0 o0 g:=fun ho=>own0_out g ho ⟨hlt,id,ob,h3,h5,hbk⟩;have hsame:=(hm.keep g hlt hno0).1
    refine .inr (.inl ⟨g,cur,hsame.trans hr.blk,hr.ko,fun e=> ?_,fun e=> ?_,hr.z,hr.row,fun i j row c x g1 g2 g3=>(hr.cell i j row c x g1 g2 g3).mono hmono (fun _ _ h=>h),hr.one⟩)
    ·rw [nu_old id _ h3 h4];exact hr.box e
    ·rw [nu_old id _ h3 h4];exact hr.vec e
   ·have hbk:=hmp.bg;have hlt:g<w.heap.size:=(U2.1 hmp.blk).1;have hno0: ¬owned nu0 o0 g:=fun ho=>own0_out g ho ⟨hlt,id,ob,h3,h5,hbk⟩;exact .inr (.inr ⟨g,es,cl,hmp.tr (hm.keep g hlt hno0).1 (fun h=>h) (nu_old id _ h3 h4) (fun i j row c x _ _ hr=>hr.mono hmono (fun _ _ h=>h))⟩)
 ·have cross: ∀(k id:Nat) (ob0 ob:aa) (b:Nat),o1[k]? = some (some ob0)->b9 (nu1 k ob0.hl)=some b->id∉ids->o[id]? = some (some ob)->b9 (nu id ob.hl)=some b->False:=fun k id ob0 ob b g1 g2 g3 g4 g5=>by
   rcases ro1.obj k ob0 g1 with ⟨e1,e2,e3⟩|⟨g,cur,hr⟩|⟨g,es,cl,hmp⟩
   ·simp only [aa.hl,e1,e2,if_true,List.length_nil,e3,b9,dc] at g2;cases g2
   ·have hbk:=hr.bg;rw [hbk] at g2;cases g2;exact hr.ko.2 ⟨hro.a6 ⟨id,ob,g4,g5⟩,id,ob,g3,g4,g5⟩
   ·have hbk:=hmp.bg;rw [hbk] at g2;cases g2;exact hmp.ko.2 ⟨hro.a6 ⟨id,ob,g4,g5⟩,id,ob,g3,g4,g5⟩
  rcases parts id _ h1 with ⟨k,y,rfl,hy,e⟩|⟨p3,p4,p5⟩
  ·obtain ⟨ob0,rfl,rfl⟩:=VM.1 e.symm;rw [aa.dX,nu_sig] at h3
   rcases parts id' _ h2 with ⟨k',y',rfl,hy',e'⟩|⟨p3',p4',p5'⟩
   ·obtain ⟨ob0',rfl,rfl⟩:=VM.1 e'.symm;rw [aa.dX,nu_sig] at h4;exact ro1.sep k k' ob0 ob0' b hy hy' (fun e=>hne (by rw [e])) h3 h4
   ·rw [nu_old id' _ p3' p4'] at h4;exact cross k id' ob0 ob' b hy h3 p3' p5' h4
  ·rw [nu_old id _ p3 p4] at h3
   rcases parts id' _ h2 with ⟨k',y',rfl,hy',e'⟩|⟨p3',p4',p5'⟩
   ·obtain ⟨ob0',rfl,rfl⟩:=VM.1 e'.symm;rw [aa.dX,nu_sig] at h4;exact cross k' id ob0' ob b hy' h4 p3 p5 h3
   ·rw [nu_old id' _ p3' p4'] at h4;exact hro.sep id id' ob ob' b p5 p5' hne h3 h4
def aK (P:Program) (f:FuncId) (args:List AV) (o:List (Option aa)) (r:AV) (o':List (Option aa)):Prop:=eV P f args o (fun r' o''=>r'=r∧o''=o')
theorem ab.fr {f:FuncId} {args args0:List AV} {o0 o1:List (Option aa)} {r0:AV} {K:AV->List (Option aa)->Prop} (ids:List Nat) (h:aK P f args0 o0 r0 o1) (hnd:ids.Nodup)
  (ho:ids.map (fun i=>o[i]?)=o0.map (fun x=>some (x.map (aa.aV (sig ids o.length)))))
  (hargs:args=bw (sig ids o.length) args0) (hwa:bp ids.length args0=true) (hwo: ∀(k:Nat) ob,o0[k]? = some (some ob)->bZ ids.length ob.rows=true)
  (k:K (r0.aV (sig ids o.length)) (dW (sig ids o.length) ids o1 o)):ab P f args o K:=
 .two (eV.frame ids h hnd ho hargs hwa hwo) (fun r o' hh=>by
  obtain ⟨r1,o2,⟨rfl,rfl⟩,rfl,rfl⟩:=hh
  exact k)
def Ua (n:Nat) (o2:List (Option aa)) (r0 r:AV) (o':List (Option aa)):Prop:=aW o'.length [r0] [r]∧aY o'.length o2 o'∧n<=o'.length
theorem aK.enter {f:FuncId} {fn:Func} {c:Code} {args:List AV} {r:AV} {o':List (Option aa)} (hf:P.funcs[f]? = some fn) (hb:fn.body=some c) (hc:df P f=true) (hok:bq c=true) (hmx:P.follows .mixedOrders=true)
  (h:bS P o.length c ⟨args++List.replicate (fn.ntmps - args.length) .undef,o, .no⟩ (wT P fn.results.toList (fun r0 o2=>Ua o.length o2 r0 r o'))):aK P f args o r o':=by
 obtain ⟨hc',h2⟩:=eV.enter hf hb hc hok hmx h;refine ⟨hc',fun D nu w vargs hro hra=>(h2 D nu w vargs hro hra).mono ?_⟩;rintro e w' ⟨v,nu',o2,r0,rfl,hm,hro',hra',hw⟩
 have hs:RS ⟨0,none,fun _=>False⟩ D nu' ⟨[r0],o2, .no⟩ { tmps:= #[v],defers:=[] } w':=⟨hro',⟨rfl,fun i c x h1 h2=>by
  match i,h1,h2 with
  | 0,h1,h2=>cases h1;cases h2;exact hra'
  | i+1,h1,h2=>simp at h1⟩,⟨Nat.zero_le _,⟨[],List.nodup_nil,rfl,fun x hx=>(by cases hx)⟩,fun l hl=>by cases hl⟩⟩
 have hk:Wk o.length ⟨[r0],o2, .no⟩ ⟨[r],o', .no⟩:=⟨hw.1,hw.2.1,hw.2.2,rfl⟩;have k2:=gW hk hs;exact ⟨v,nu',o',r,rfl,hk.mono (Nat.le_refl _) hm,k2.ro,k2.tm.at' 0 r v rfl rfl,rfl,rfl⟩
mutual
theorem wh (f:Nat->Nat): ∀a:AV,a.wf 0=true->a.aV f=a
 | .undef,_=>rfl
 | .v _,_=>rfl
 | .agg cs,h=>by rw [AV.aV,cn f cs h]
 | .cy cs,h=>by rw [AV.aV,cn f cs h]
 | .aH z rows len,h=>by rw [AV.aV,aS f rows h]
 | .vp cs,h=>by rw [AV.aV,cn f cs h]
 | .ptr id _ _ _ _,h=>by simp [AV.wf] at h
 | .vec id _,h=>by simp [AV.wf] at h
 | .fn g a b,h=>by
  simp only [AV.wf,VS] at h;rw [AV.aV,cn f a h.1,cn f b h.2]
 | .full a,h=>by rw [AV.aV,wh f a h]
 | .gu p a,h=>by rw [AV.aV,wh f a h]
 | .mp rows,h=>by rw [AV.aV,aS f rows h]
theorem cn (f:Nat->Nat): ∀l:List AV,bp 0 l=true->bw f l=l
 | [],_=>rfl
 | a :: l,h=>by
  simp only [bp,VS] at h;rw [bw,wh f a h.1,cn f l h.2]
theorem aS (f:Nat->Nat): ∀l:List (List AV),bZ 0 l=true->bu f l=l
 | [],_=>rfl
 | a :: l,h=>by
  simp only [bZ,VS] at h;rw [bu,cn f a h.1,aS f l h.2]
end
def cf (m:Nat) (t:List AV):List AV:=t.take m++List.replicate (t.length - m) .undef
def ke (t:List AV) (l:List (Nat×AV)):List AV:=l.foldl (fun t p=>t.set p.1 p.2) t
theorem bD {n0:Nat} {Q:aR->AS->Prop} {ι:Type} {c:Code} {t:List AV} {o:List (Option aa)} {y:iW} (m:Nat) (upd:ι->List (Nat×AV)) (mu:ι->Nat) (ok:ι->Prop) (i0:ι) (h3:ok i0) (h2:Wk n0 ⟨t,o,y⟩ ⟨ke (cf m t) (upd i0),o,y⟩)
  (h: ∀i,ok i-> ∀K:AS->Prop,(∀s2,aJ n0 (fun i=>⟨ke (cf m t) (upd i),o,y⟩) mu ok (mu i) s2->K s2)->bS P n0 c ⟨ke (cf m t) (upd i),o,y⟩ (lW K Q)):bS P n0 (.loop c) ⟨t,o,y⟩ Q:=
 kK (fun i=>⟨ke (cf m t) (upd i),o,y⟩) mu ok i0 _ .refl h2 h3 h
theorem bI {n0:Nat} {Q:aR->AS->Prop} {ι:Type} {c:Code} {t:List AV} {o:List (Option aa)} {y:iW} (m:Nat) (upd:ι->List (Nat×AV)) (ob:ι->List (Option aa)) (mu:ι->Nat) (ok:ι->Prop) (i0:ι) (h3:ok i0) (h2:Wk n0 ⟨t,o,y⟩ ⟨ke (cf m t) (upd i0),ob i0,y⟩)
  (h: ∀i,ok i-> ∀K:AS->Prop,(∀s2,aJ n0 (fun i=>⟨ke (cf m t) (upd i),ob i,y⟩) mu ok (mu i) s2->K s2)->bS P n0 c ⟨ke (cf m t) (upd i),ob i,y⟩ (lW K Q)):bS P n0 (.loop c) ⟨t,o,y⟩ Q:=
 kK (fun i=>⟨ke (cf m t) (upd i),ob i,y⟩) mu ok i0 _ .refl h2 h3 h
theorem jh {n0:Nat} {Q:aR->AS->Prop} {ι:Type} {c:Code} {t:List AV} {o:List (Option aa)} {y:iW} (d:Nat) (T:TypeId) (z:Nat) (hd:t[d]? = some (.v (.slice none 0 0))) (hz:0<z) (m:Nat) (upd:ι->List (Nat×AV)) (ob:ι->List (Option aa)) (mu:ι->Nat) (ok:ι->Prop) (i0:ι) (h3:ok i0)
  (h2:Wk n0 ⟨t.set d (.vec o.length 0),o++[some ⟨T,z,true,[]⟩],y⟩ ⟨ke (cf m t) (upd i0),ob i0,y⟩)
  (h: ∀i,ok i-> ∀K:AS->Prop,(∀s2,aJ n0 (fun i=>⟨ke (cf m t) (upd i),ob i,y⟩) mu ok (mu i) s2->K s2)->bS P n0 c ⟨ke (cf m t) (upd i),ob i,y⟩ (lW K Q)):bS P n0 (.loop c) ⟨t,o,y⟩ Q:=
 kK (fun i=>⟨ke (cf m t) (upd i),ob i,y⟩) mu ok i0 _ (.step d T z ⟨t,o,y⟩ .refl hd hz) h2 h3 h
end
attribute [go_sem] Value.oneCell' bw bu AV.aV aa.aV sig dW aS cf ke List.foldl_cons List.foldl_nil
end
section
structure kD where
 G:Type
 wd:G->World
 R:G->G->Prop
 Sb: ∀g,R g g
 trans': ∀a b c,R a b->R b c->R a c
 pre:Nat->G->Prop
structure fY (N:kD) where
 p:Value->N.G->Prop
 st: ∀v g g',N.R g g'->p v g->p v g'
def fY.any {N:kD}:fY N:=⟨fun _ _=>True,fun _ _ _ _ _=>trivial⟩
def vi {N:kD} (L:List (fY N)) (i:Nat):fY N:=L.getD i fY.any
section
variable {P:Program} {ops:Array Oper} {N:kD}
def RL (P:Program) (S:fY N) (j:Nat) (g:N.G):Result Next->Prop
 | .ok (.value u) w'=> ∃g',N.wd g'=w'∧N.R g g'∧(∀i,i≠j->N.pre i g->N.pre i g')∧S.p u g'
 | .ok .skip w'=> ∃g',N.wd g'=w'∧N.R g g'∧(∀i,i≠j->N.pre i g->N.pre i g')∧S.p undef g'
 | .ok (.enter f args) w'=>Calls P f args w' (fun e w''=> ∃v g',e = .returned v∧N.wd g'=w''∧N.R g g'∧(∀i,i≠j->N.pre i g->N.pre i g')∧S.p v g')
 | _=>False
end
end
section
mutual
theorem Bf: ∀a:AV,a.aV (fun x=>x)=a
 | .undef=>rfl
 | .v _=>rfl
 | .agg cs=>by rw [AV.aV,j9 cs]
 | .cy cs=>by rw [AV.aV,j9 cs]
 | .aH z rows len=>by rw [AV.aV,wc rows]
 | .vp cs=>by rw [AV.aV,j9 cs]
 | .ptr id _ _ _ _=>rfl
 | .vec id _=>rfl
 | .fn g a b=>by rw [AV.aV,j9 a,j9 b]
 | .full a=>by rw [AV.aV,Bf a]
 | .gu p a=>by rw [AV.aV,Bf a]
 | .mp rows=>by rw [AV.aV,wc rows]
theorem j9: ∀l:List AV,bw (fun x=>x) l=l
 | []=>rfl
 | a :: l=>by rw [bw,Bf a,j9 l]
theorem wc: ∀l:List (List AV),bu (fun x=>x) l=l
 | []=>rfl
 | a :: l=>by rw [bu,j9 a,wc l]
end
section
variable {D D':Nat->Prop} {nu nu':Nat->Nat->Value} {o o':List (Option aa)} {w w':World} {P:Program}
end
structure BG (w0:World) (tz:Nat->TypeId×Nat) where
 w:World
 n:Nat->Option (Nat×Option (Array Value))
 base:Below w0.heap.size w0 w
 lay: ∀i b c,n i=some (b,c)->w0.heap.size<=b∧ ∃C:Array Value,w.heap[b]? = some (.cells C (tz i).1 (0,0))∧C.size=(tz i).2∧(∀x∈C.toList,x.oneCell'=true)∧ ∀C',c=some C'->C=C'
 inj: ∀i j b c c',n i=some (b,c)->n j=some (b,c')->i=j
def BG.box {w0:World} {tz:Nat->TypeId×Nat} (g:BG w0 tz) (b:Nat):Prop:= ∃i c,g.n i=some (b,c)
def BG.UC {w0:World} {tz:Nat->TypeId×Nat} (g:BG w0 tz) (b:Nat):Prop:= ∃i,g.n i=some (b,none)
structure BR {w0:World} {tz:Nat->TypeId×Nat} (g g':BG w0 tz):Prop where
 size:g.w.heap.size<=g'.w.heap.size
 same: ∀b,b<g.w.heap.size-> ¬g.UC b->g'.w.heap[b]? = g.w.heap[b]?
 up: ∀i b c,g.n i=some (b,c)-> ∃c',g'.n i=some (b,c')∧ ∀C,c=some C->c'=some C
 new: ∀i b c,g'.n i=some (b,c)->b<g.w.heap.size-> ∃c',g.n i=some (b,c')
def Tw (l:List Oper) (j i:Nat):Prop:= ∃T d x oj oi U,l[j]? = some oj∧oj.op = .store T (.tmp d) x∧l[i]? = some oi∧oi.op = .alloc U∧oi.dst=some d
def Dx {w0:World} {tz:Nat->TypeId×Nat} (D:Nat->Prop) (g:BG w0 tz) (b:Nat):Prop:=D b∧ ¬g.box b
section
variable {w0:World} {tz:Nat->TypeId×Nat} {l:List Oper} {D:Nat->Prop} {nu:Nat->Nat->Value} {o:List (Option aa)} {P:Program}
inductive BE where
 | val (r:AV)
 | al
 | st (i:Nat) (row:List AV)
def BG.next (g:BG w0 tz) (w':World) (h:Below g.w.heap.size g.w w'):BG w0 tz:=⟨w',g.n,cQ g.base h,fun i b c hi=>by
 obtain ⟨h1,C,h2,h3⟩:=g.lay i b c hi
 exact ⟨h1,C,(h.block b (U2.1 h2).1).trans h2,h3⟩,g.inj⟩
structure Bx where
 d:Tmp
 k:Nat
 T:TypeId
 z:Nat
 row:Option (List AV)
def zY (d:Tmp):List Bx->Option Bx
 | []=>none
 | b :: l=>if b.d=d then some b else zY d l
def F8 (d:Tmp) (r:List AV):List Bx->List Bx
 | []=>[]
 | b :: l=>if b.d=d then { b with row:=some r } :: l else b :: F8 d r l
def qV:AS->List Bx->AS
 | s,[]=>s
 | s,b :: l=>qV ⟨s.t.set b.d (.ptr s.o.length 0 b.z 0 0),s.o++[some ⟨b.T,b.z,false,[b.row.getD []]⟩],s.y⟩ l
def I5:Option (Nat×Bool)->Option Tmp->Option (List AV)->Nat->(Tmp->Nat->Prop)->Prop
 | none,some d,some cs,n,K=>(0<cs.length∧d<n)∧K d cs.length
 | _,_,_,_,_=>False
def I6:Option (Nat×Bool)->Option Tmp->Option Bx->Option (List AV)->Option Nat->(List AV->Prop)->Prop
 | none,none,some b,some cs,some n,K=>(cs.length=n∧n=b.z∧b.row.isNone=true∧bp 0 cs=true)∧K cs
 | _,_,_,_,_,_=>False
def zp (P:Program) (all:List Oper):List Oper->Nat->AS->List Bx->(AS->Prop)->Prop
 | [],_,s,bx,Q=>bx.all (fun b=>b.row.isSome)=true∧Q (qV s bx)
 | oo :: rest,k,s,bx,Q=>match oo.op with
  | .alloc T=>I5 oo.guard oo.dst (cq P T) s.t.length (fun d z=>zp P all rest (k+1) (s.put (some d) .undef s.o) (bx++[⟨d,k,T,z,none⟩]) Q)
  | .store T (.tmp d) x=>I6 oo.guard oo.dst (zY d bx) (s.ev x).cells? (bc P T) (fun cs=>zp P all rest (k+1) (s.put oo.dst .undef s.o) (F8 d cs bx) Q)
  | _=>match oo.guard with
   | none=>db P oo.op s (fun r=>zp P all rest (k+1) (s.put oo.dst r s.o) bx Q)
   | some (j,want)=>sR (jl all s j) want (db P oo.op s (fun r=>zp P all rest (k+1) (s.put oo.dst r s.o) bx Q)) (zp P all rest (k+1) (s.put oo.dst (.v Go.undef) s.o) bx Q)
def LN (o:Oper):Option Tmp:=match o.op with
 | .store _ (.tmp d) _=>some d
 | _=>none
def OI (o:Oper):Option Tmp:=match o.op with
 | .alloc _=>o.dst
 | _=>none
def Uq (ops:Array Oper):Bool:=(List.range ops.size).all fun j=>(List.range ops.size).all fun i=>match ops[j]?,ops[i]? with
 | some oj,some oi=>match LN oj with
  | some d=>(i==j||LN oi !=some d)&&(OI oi !=some d||aG ops j i)
  | none=>true
 | _,_=>true
structure Uc (l:List Oper) (tz:Nat->TypeId×Nat) (s:AS) (a:Act) (k:Nat) (sk:AS) (rs:List BE) (A:(Nat->Value)->Act) (bx:List Bx):Prop where
 o:sk.o=s.o
 y:sk.y=s.y
 len:rs.length=k
 iB: ∀x,(A x).defers=a.defers
 size: ∀x,sk.t.length=(A x).tmps.size
 val: ∀x (t:Nat) c v,sk.t[t]? = some c->(A x).tmps[t]? = some v->c = .undef∨(s.t[t]? = some c∧a.tmps[t]? = some v)∨ ∃i,i<k∧(∃oi,l[i]? = some oi∧oi.dst=some t)∧rs[i]? = some (.val c)∧v=x i
 box: ∀b,b∈bx->b.k<k∧rs[b.k]? = some .al∧(∃oi,l[b.k]? = some oi∧oi.op = .alloc b.T∧oi.dst=some b.d)∧tz b.k=(b.T,b.z)∧0<b.z∧(∀x,(A x).tmps[b.d]? = some (x b.k))∧(∀r,b.row=some r->r.length=b.z∧ ∃j,j<k∧rs[j]? = some (.st b.k r))
 Ty:(bx.map Bx.k).Nodup
end
end
section
section
variable {w0:World} {tz:Nat->TypeId×Nat} {l:List Oper} {D:Nat->Prop} {nu:Nat->Nat->Value} {o:List (Option aa)} {P:Program}
end
end
section
section
variable {l:List Oper} {D:Nat->Prop} {nu:Nat->Nat->Value} {o:List (Option aa)} {P:Program}
theorem FJ {all:List Oper} {k:Nat} {s:AS} {bx:List Bx} {Q:AS->Prop} (h:bx.all (fun b=>b.row.isSome)=true∧Q (qV s bx)):zp P all [] k s bx Q:=h
end
@[go_sem] theorem NG (d:Tmp) (cs:List AV) (n:Nat) (K:Tmp->Nat->Prop):I5 none (some d) (some cs) n K=((0<cs.length∧d<n)∧K d cs.length):=rfl
@[go_sem] theorem NH (b:Bx) (cs:List AV) (n:Nat) (K:List AV->Prop):I6 none none (some b) (some cs) (some n) K=((cs.length=n∧n=b.z∧b.row.isNone=true∧bp 0 cs=true)∧K cs):=rfl
@[congr] theorem LY {g:Option (Nat×Bool)} {d:Option Tmp} {x y:Option (List AV)} {n m:Nat} {K:Tmp->Nat->Prop} (h:x=y) (k:n=m):I5 g d x n K=I5 g d y m K:=by rw [h,k]
@[congr] theorem LZ {g:Option (Nat×Bool)} {d:Option Tmp} {b b':Option Bx} {x y:Option (List AV)} {n m:Option Nat} {K:List AV->Prop} (h1:b=b') (h:x=y) (k:n=m):I6 g d b x n K=I6 g d b' y m K:=by rw [h1,h,k]
attribute [go_sem] List.all_cons List.all_nil zY F8 qV Option.isNone_none Option.isSome_some Option.getD_some
@[go_sem] theorem Om (t:List AV) (o:List (Option aa)) (y:iW):(AS.mk t o y).t=t:=rfl
end
end Go.Proofs.YtlhhccmopfamhaaGreatDoor
