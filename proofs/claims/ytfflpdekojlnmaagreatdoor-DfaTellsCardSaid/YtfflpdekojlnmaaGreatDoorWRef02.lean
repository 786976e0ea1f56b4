/- texts of one claim, one behind the other. -/
import Derived.KernelRfl
import Derived.Test.YtfflpdekojlnmaaGreatDoorProg
import Derived.Test.YtfflpdekojlnmaaGreatDoorWAbsJ
import Derived.Test.YtfflpdekojlnmaaGreatDoorWFen
import Derived.Test.YtfflpdekojlnmaaGreatDoorWAbsV
import Derived.StillTailTactics
import Derived.Test.YtfflpdekojlnmaaGreatDoorWOpenX
import Derived.Test.YtfflpdekojlnmaaGreatDoorWLang
import Derived.Sort.Grow
set_option linter.unusedSimpArgs false
set_option linter.unusedVariables false
set_option maxRecDepth 100000
set_option maxHeartbeats 16000000
open Array renaming replicate_succ -> V2, replicate_zero -> V3, getElem?_eq_some_iff -> Uw
open List renaming getElem?_toArray -> UO, getElem?_cons_succ -> VY, getElem?_cons_zero -> VC, zip_cons_cons -> V5, zip_nil_left -> V6, foldl_cons -> V7, foldl_nil -> V8, setIfInBounds_toArray -> V9, set_cons_succ -> Wa, set_cons_zero -> Wb, getElem?_eq_some_iff -> Uy, getElem?_set_self -> UU, getElem?_set_ne -> UT, getElem?_append_right -> U2, getElem?_map -> UP, mem_of_getElem? -> U7, getElem?_eq_getElem -> UM
open Bool renaming false_and -> V4
open Nat renaming le_refl -> Ut, le_trans -> Uu, zero_le -> UE, lt_or_ge -> UA
open Option.some renaming injEq -> UI
open Prod.mk renaming injEq -> UJ
namespace Go.Proofs.YtfflpdekojlnmaaGreatDoor
open Go.RowKit
section
@[go_sem] theorem Uh:Tryz.prog.underlying 3=some (.int .i64):=by kernel_rfl
@[go_sem] theorem Tm:eo Tryz.prog 3=some (false):=by kernel_rfl
@[go_sem] theorem SL:cg Tryz.prog 3=some (1):=by kernel_rfl
@[go_sem] theorem SP:dZ Tryz.prog 3=some ([.v (.int .i64 0)]):=by kernel_rfl
@[go_sem] theorem R2:yx Tryz.prog 3=some (.v (.int .i64 0)):=by kernel_rfl
@[go_sem] theorem Ui:Tryz.prog.underlying 4=some (.bool):=by kernel_rfl
@[go_sem] theorem Tn:eo Tryz.prog 4=some (false):=by kernel_rfl
@[go_sem] theorem SM:cg Tryz.prog 4=some (1):=by kernel_rfl
@[go_sem] theorem SQ:dZ Tryz.prog 4=some ([.v (.bool false)]):=by kernel_rfl
@[go_sem] theorem Uj:Tryz.prog.underlying 5=some (.int .u8):=by kernel_rfl
@[go_sem] theorem To:eo Tryz.prog 5=some (false):=by kernel_rfl
@[go_sem] theorem SN:cg Tryz.prog 5=some (1):=by kernel_rfl
@[go_sem] theorem Uk:Tryz.prog.underlying 9=some (.string):=by kernel_rfl
@[go_sem] theorem Tp:eo Tryz.prog 9=some (false):=by kernel_rfl
@[go_sem] theorem SO:cg Tryz.prog 9=some (1):=by kernel_rfl
@[go_sem] theorem SR:dZ Tryz.prog 9=some ([.v (.string ⟨#[]⟩)]):=by kernel_rfl
@[go_sem] theorem Sm:eo Tryz.prog 22=some (false):=by kernel_rfl
@[go_sem] theorem Rs:cg Tryz.prog 22=some (1):=by kernel_rfl
@[go_sem] theorem TA:Tryz.prog.underlying 23=some (.slice 25):=by kernel_rfl
@[go_sem] theorem Sn:eo Tryz.prog 23=some (false):=by kernel_rfl
@[go_sem] theorem Rt:cg Tryz.prog 23=some (1):=by kernel_rfl
@[go_sem] theorem Tw:Pj Tryz.prog 23=some (3):=by kernel_rfl
@[go_sem] theorem SC:lu Tryz.prog 23=some (25,3,48):=by kernel_rfl
@[go_sem] theorem Sq:eo Tryz.prog 25=some (true):=by kernel_rfl
@[go_sem] theorem Ru:cg Tryz.prog 25=some (3):=by kernel_rfl
@[go_sem] theorem RG:dZ Tryz.prog 25=some ([.v (.int .i64 0), .v (.string ⟨#[]⟩), .v (.slice none 0 0)]):=by kernel_rfl
@[go_sem] theorem Qw:ix Tryz.prog 25 0=some (0):=by kernel_rfl
@[go_sem] theorem Qx:ix Tryz.prog 25 1=some (1):=by kernel_rfl
@[go_sem] theorem Qy:ix Tryz.prog 25 2=some (2):=by kernel_rfl
@[go_sem] theorem Tq:JG Tryz.prog 25=some ([(0,1),(1,1),(2,1)],[.v (.int .i64 0), .v (.string ⟨#[]⟩), .v (.slice none 0 0)]):=by kernel_rfl
@[go_sem] theorem TB:Tryz.prog.underlying 26=some (.slice 9):=by kernel_rfl
@[go_sem] theorem Sr:eo Tryz.prog 26=some (false):=by kernel_rfl
@[go_sem] theorem Rv:cg Tryz.prog 26=some (1):=by kernel_rfl
@[go_sem] theorem Tx:Pj Tryz.prog 26=some (1):=by kernel_rfl
@[go_sem] theorem SD:lu Tryz.prog 26=some (9,1,16):=by kernel_rfl
@[go_sem] theorem TC:Tryz.prog.underlying 29=some (.pointer 73):=by kernel_rfl
@[go_sem] theorem TD:Tryz.prog.underlying 54=some (.slice 4):=by kernel_rfl
@[go_sem] theorem Ss:eo Tryz.prog 54=some (false):=by kernel_rfl
@[go_sem] theorem Rw:cg Tryz.prog 54=some (1):=by kernel_rfl
@[go_sem] theorem RH:dZ Tryz.prog 54=some ([.v (.slice none 0 0)]):=by kernel_rfl
@[go_sem] theorem SE:lu Tryz.prog 54=some (4,1,1):=by kernel_rfl
@[go_sem] theorem TE:Tryz.prog.underlying 61=some (.pointer 99):=by kernel_rfl
@[go_sem] theorem Su:eo Tryz.prog 61=some (false):=by kernel_rfl
@[go_sem] theorem Rx:cg Tryz.prog 61=some (1):=by kernel_rfl
@[go_sem] theorem Sv:eo Tryz.prog 65=some (false):=by kernel_rfl
@[go_sem] theorem Ry:cg Tryz.prog 65=some (1):=by kernel_rfl
@[go_sem] theorem TF:Tryz.prog.underlying 68=some (.slice 84):=by kernel_rfl
@[go_sem] theorem Sw:eo Tryz.prog 68=some (false):=by kernel_rfl
@[go_sem] theorem Rz:cg Tryz.prog 68=some (1):=by kernel_rfl
@[go_sem] theorem SF:lu Tryz.prog 68=some (84,1,8):=by kernel_rfl
@[go_sem] theorem Sx:eo Tryz.prog 70=some (true):=by kernel_rfl
@[go_sem] theorem RB:cg Tryz.prog 70=some (2):=by kernel_rfl
@[go_sem] theorem RI:dZ Tryz.prog 70=some ([.v (.slice none 0 0), .v (.slice none 0 0)]):=by kernel_rfl
@[go_sem] theorem Qz:ix Tryz.prog 70 0=some (0):=by kernel_rfl
@[go_sem] theorem QA:ix Tryz.prog 70 1=some (1):=by kernel_rfl
@[go_sem] theorem Tr:JG Tryz.prog 70=some ([(0,1),(1,1)],[.v (.slice none 0 0), .v (.slice none 0 0)]):=by kernel_rfl
@[go_sem] theorem QB:ix Tryz.prog 73 0=some (0):=by kernel_rfl
@[go_sem] theorem QC:ix Tryz.prog 73 1=some (2):=by kernel_rfl
@[go_sem] theorem Tt:JG Tryz.prog 73=some ([(0,2),(2,1)],[.v (.slice none 0 0), .v (.slice none 0 0), .v (.slice none 0 0)]):=by kernel_rfl
@[go_sem] theorem TG:Tryz.prog.underlying 74=some (.slice 79):=by kernel_rfl
@[go_sem] theorem Sy:eo Tryz.prog 74=some (false):=by kernel_rfl
@[go_sem] theorem RC:cg Tryz.prog 74=some (1):=by kernel_rfl
@[go_sem] theorem SG:lu Tryz.prog 74=some (79,1,24):=by kernel_rfl
@[go_sem] theorem QD:ix Tryz.prog 76 0=some (0):=by kernel_rfl
@[go_sem] theorem QE:ix Tryz.prog 76 1=some (1):=by kernel_rfl
@[go_sem] theorem QF:ix Tryz.prog 76 2=some (2):=by kernel_rfl
@[go_sem] theorem Tu:JG Tryz.prog 76=some ([(0,1),(1,1),(2,1)],[.v (.slice none 0 0), .v (.slice none 0 0), .v (.slice none 0 0)]):=by kernel_rfl
@[go_sem] theorem TH:Tryz.prog.underlying 79=some (.slice 3):=by kernel_rfl
@[go_sem] theorem Sz:eo Tryz.prog 79=some (false):=by kernel_rfl
@[go_sem] theorem RD:cg Tryz.prog 79=some (1):=by kernel_rfl
@[go_sem] theorem RJ:dZ Tryz.prog 79=some ([.v (.slice none 0 0)]):=by kernel_rfl
@[go_sem] theorem SH:lu Tryz.prog 79=some (3,1,8):=by kernel_rfl
@[go_sem] theorem TI:Tryz.prog.underlying 83=some (.map 9 3):=by kernel_rfl
@[go_sem] theorem TJ:Tryz.prog.underlying 84=some (.map 9 3):=by kernel_rfl
@[go_sem] theorem SA:eo Tryz.prog 84=some (false):=by kernel_rfl
@[go_sem] theorem RE:cg Tryz.prog 84=some (1):=by kernel_rfl
@[go_sem] theorem RK:dZ Tryz.prog 84=some ([.v (.map none)]):=by kernel_rfl
@[go_sem] theorem SB:eo Tryz.prog 96=some (false):=by kernel_rfl
@[go_sem] theorem RF:cg Tryz.prog 96=some (1):=by kernel_rfl
@[go_sem] theorem RL:dZ Tryz.prog 96=some ([.v (.int .u32 0)]):=by kernel_rfl
@[go_sem] theorem TK:Tryz.prog.underlying 97=some (.array 25 96):=by kernel_rfl
@[go_sem] theorem QG:ix Tryz.prog 99 0=some (0):=by kernel_rfl
@[go_sem] theorem QH:ix Tryz.prog 99 1=some (1):=by kernel_rfl
@[go_sem] theorem QI:ix Tryz.prog 99 2=some (26):=by kernel_rfl
@[go_sem] theorem QJ:ix Tryz.prog 99 3=some (27):=by kernel_rfl
@[go_sem] theorem Tv:JG Tryz.prog 99=some ([(0,1),(1,25),(26,1),(27,1)],[.v (.slice none 0 0), .v (.int .u32 0), .v (.int .u32 0), .v (.int .u32 0), .v (.int .u32 0), .v (.int .u32 0), .v (.int .u32 0), .v (.int .u32 0), .v (.int .u32 0), .v (.int .u32 0), .v (.int .u32 0), .v (.int .u32 0), .v (.int .u32 0), .v (.int .u32 0), .v (.int .u32 0), .v (.int .u32 0), .v (.int .u32 0), .v (.int .u32 0), .v (.int .u32 0), .v (.int .u32 0), .v (.int .u32 0), .v (.int .u32 0), .v (.int .u32 0), .v (.int .u32 0), .v (.int .u32 0), .v (.int .u32 0), .v (.int .u32 0), .v (.bool false)]):=by kernel_rfl
@[go_sem] theorem Rm:eo Tryz.prog 101=some (true):=by kernel_rfl
@[go_sem] theorem QK:cg Tryz.prog 101=some (2):=by kernel_rfl
@[go_sem] theorem QO:dZ Tryz.prog 101=some ([.v (.int .u32 0), .v (.int .u32 0)]):=by kernel_rfl
@[go_sem] theorem O8:ix Tryz.prog 101 0=some (0):=by kernel_rfl
@[go_sem] theorem O9:ix Tryz.prog 101 1=some (1):=by kernel_rfl
@[go_sem] theorem SI:JG Tryz.prog 101=some ([(0,1),(1,1)],[.v (.int .u32 0), .v (.int .u32 0)]):=by kernel_rfl
@[go_sem] theorem SX:Tryz.prog.underlying 108=some (.map 3 3):=by kernel_rfl
@[go_sem] theorem Rn:eo Tryz.prog 108=some (false):=by kernel_rfl
@[go_sem] theorem QL:cg Tryz.prog 108=some (1):=by kernel_rfl
@[go_sem] theorem QP:dZ Tryz.prog 108=some ([.v (.map none)]):=by kernel_rfl
@[go_sem] theorem SY:Tryz.prog.underlying 118=some (.slice 54):=by kernel_rfl
@[go_sem] theorem Ro:eo Tryz.prog 118=some (false):=by kernel_rfl
@[go_sem] theorem QM:cg Tryz.prog 118=some (1):=by kernel_rfl
@[go_sem] theorem Rq:lu Tryz.prog 118=some (54,1,24):=by kernel_rfl
@[go_sem] theorem Pa:ix Tryz.prog 120 0=some (0):=by kernel_rfl
@[go_sem] theorem Pb:ix Tryz.prog 120 1=some (1):=by kernel_rfl
@[go_sem] theorem Pc:ix Tryz.prog 120 2=some (2):=by kernel_rfl
@[go_sem] theorem Pd:ix Tryz.prog 120 3=some (3):=by kernel_rfl
@[go_sem] theorem Pe:ix Tryz.prog 120 4=some (4):=by kernel_rfl
@[go_sem] theorem SJ:JG Tryz.prog 120=some ([(0,1),(1,1),(2,1),(3,1),(4,1),(5,3)],[.v (.slice none 0 0), .v (.slice none 0 0), .v (.slice none 0 0), .v (.slice none 0 0), .v (.bool false), .v (.int .i64 0), .v (.string ⟨#[]⟩), .v (.slice none 0 0)]):=by kernel_rfl
@[go_sem] theorem Rp:eo Tryz.prog 152=some (true):=by kernel_rfl
@[go_sem] theorem QN:cg Tryz.prog 152=some (3):=by kernel_rfl
@[go_sem] theorem QQ:dZ Tryz.prog 152=some ([.v (.slice none 0 0), .v (.slice none 0 0), .v (.bool false)]):=by kernel_rfl
@[go_sem] theorem Pf:ix Tryz.prog 152 0=some (0):=by kernel_rfl
@[go_sem] theorem Pg:ix Tryz.prog 152 1=some (1):=by kernel_rfl
@[go_sem] theorem Ph:ix Tryz.prog 152 2=some (2):=by kernel_rfl
@[go_sem] theorem SK:JG Tryz.prog 152=some ([(0,1),(1,1),(2,1)],[.v (.slice none 0 0), .v (.slice none 0 0), .v (.bool false)]):=by kernel_rfl
@[go_sem] theorem SZ:Tryz.prog.underlying 181=some (.slice 152):=by kernel_rfl
@[go_sem] theorem Rr:lu Tryz.prog 181=some (152,3,56):=by kernel_rfl
@[go_sem] theorem S0:Tryz.prog.underlying 203=some (.array 32 5):=by kernel_rfl
open Go.RowKit Go.Shelf
attribute [local go_sem] Oper.semAt_some
def TR (J Jx:List XC->World->Prop) (Kp:World->World->Prop) (pre:List XC) (xs:List Ex) (W:World) (e:Ending) (W':World):Prop:=
 (e = .returned (.bool true)∧(∃L,L.map XC.sig=xs.map Ex.sig∧J (pre++L) W')∧Kp W W') ∨
 (e = .returned (.bool false)∧ ∃q,q.map XC.sig <+: xs.map Ex.sig∧Jx (pre++q) W')
def WalkC (F:Fence) (l N lo hi:Nat) (et:TypeId) (J Jx:List XC->World->Prop) (w0:World) (x:Ex):Prop:=
 ∀(n:Nat) (cx:List Value) (pre:List XC) (W:World),dt w0 x cx->x.ok->Cells w0 W->hi<=W.heap.size->J pre W->pre.length+(ah x).length<=N ->
  CallsIn F n Tryz.prog 75 #[.agg cx.toArray, .func (.yield l) #[] #[]] W (TR J Jx (Kept lo hi et) pre (ah x) W)
theorem F7 (F:Fence) (hF: ∀f,F.fn f) (hd:F.depth=none) (hro:F.round=none) (l N lo hi:Nat) (et:TypeId) (het:25≠et) (J Jx:List XC->World->Prop) (w0:World) (hlo:w0.heap.size<=lo)
  (hJ: ∀pre W o,J pre W->J pre (W.alloc o))
  (hY: ∀m pre (c:XC) W,J pre W->pre.length<N->YieldAt F m Tryz.prog l #[c.val] W (TS J Jx (Kept lo hi et) pre c W)) (x:Ex):WalkC F l N lo hi et J Jx w0 x:=by
 induction x using Ex.ind with
 | h k s kids ih=>
  intro n cx pre W hx hok hb hhi hj hN;rw [dt] at hx;obtain ⟨sv,rfl,hr⟩:=hx;obtain ⟨p,c,rfl,hc1,hc2⟩:=hr.shape;rw [Ex.ok] at hok;obtain ⟨hs,hoks⟩:=hok
  replace hs:=hs.len
  rw [ah] at hN ⊢
  have hdd: ∀k:Nat,(F.depth.isSome=true->1<=k):=fun k h=>by rw [hd] at h;cases h
  obtain ⟨xc,hxv,hxs⟩: ∃xc:XC,xc.val = .agg #[.int .i64 k, .string s, .slice p kids.length c]∧xc.sig=(k,s,kids.length):=⟨⟨k,s,p,kids.length,c,hs,by omega⟩,rfl,rfl⟩;have hy1:=hY (n - 1) pre xc (W.alloc (.cells #[.int .i64 k, .string s, .slice p kids.length c] 25)) (hJ _ _ _ hj) (by simp at hN;omega);obtain ⟨fn,tmps,assign,body,hy,hR⟩:=hy1;rw [hxv] at hy;have HR:=Lib.hid hR;clear hR;have HX:=Lib.hid ih;have HO:=Lib.hid (mM.1 hoks);have HRd:=Lib.hid hr;have HBl:=Lib.hid hb;have HNN:=Lib.hid hN;have HJ:=Lib.hid hJ;have HXS:=Lib.hid hxs
  have HW:Hid (W.heap.size<(W.alloc (.cells #[.int .i64 k, .string s, .slice p kids.length c] 25)).heap.size):=by show _<_;simp
  have HB:Hid ((W.alloc (.cells #[.int .i64 k, .string s, .slice p kids.length c] 25)).heap[W.heap.size]? = some (.cells #[.int .i64 k, .string s, .slice p kids.length c] 25)):=by show _=_;exact e7 _ _
  clear ih hoks hr hb hN hj hs hY hJ hxv hxs;unfold maxLen at hc2;refine callsIn_of_wp Tryz.func75 rfl (hF _) ?_ hro;simp only [Tryz.ntmps75,List.size_toArray,List.length_cons,List.length_nil,Nat.reduceAdd,Nat.reduceSub,V2,V3,List.push_toArray,List.append_toArray,List.nil_append,List.cons_append]
  gi_wp2_with fail
  refine HR.out.mono ?_
  rintro e W2 (⟨rfl,hJ2,hk2⟩|⟨rfl,hx2⟩)
  ·have hbox:=hk2.box hhi het HB.out;have hk1:Kept lo hi et W W2:=(Kept.alloc W _).trans hk2;have hce:=aH hbox 2;have HH:=Lib.hid hbox;have HK:=Lib.hid hk1;have HJ2:=Lib.hid hJ2;clear hbox hk1 hk2 hJ2;simp only [UO,VY,VC] at hce
   gi_wp2_with fail
   gi_loopw [4,14] (fun r i wr=>r = .bool false∧ ∃k:Nat,i = .int .i64 k∧k<=kids.length∧Kept lo hi et W wr∧ ∃L,L.map XC.sig=((bE (kids.take k))).map Ex.sig∧J (pre++[xc]++L) wr) (fun _ i _=>kids.length - (intOf i).toNat)
   case atStart=>exact ⟨rfl,0,rfl,Nat.zero_le _,HK.out,[],rfl,by simpa using HJ2.out⟩
   case round=>
    obtain ⟨rfl,i,rfl,hik,hkw,L,hL,hJL⟩:=hrel;have HKW:=Lib.hid hkw;have HL:=Lib.hid hL;have HJL:=Lib.hid hJL
    have hlen:L.length=(bE (kids.take i)).length:=by have:=congrArg List.length hL;simpa using this
    clear hkw hL hJL
    by_cases hlt:i<kids.length
    ·have hcw:=HKW.out.cells HBl.out hlo;obtain ⟨b1,o1,k1,s1,l1,v1,rfl,hx1,hr1,a0,a1,a2⟩:=HRd.out.at hlt;obtain ⟨p1,c1,rfl, -, -⟩:=hr1.shape
     replace a0:=hcw _ _ _ a0
     replace a1:=hcw _ _ _ a1
     replace a2:=hcw _ _ _ a2
     have hq1:=k9 a0;have hmem:kids[i]∈kids:=List.getElem_mem _
     have hrx:dt w0 kids[i] [.int .i64 k1, .string s1, .slice p1 l1.length c1]:=by rw [hx1,dt];exact ⟨_,rfl,hr1⟩
     have hpp:=nR hlt
     have hbd:(pre++[xc]++L).length+(ah kids[i]).length<=N:=by
      have h1:=HNN.out;have h2:=pZ kids (i+1);rw [hpp] at h2;simp at h1 h2 ⊢;omega
     have HH1:=Lib.hid (fun m W' hcc hh hj=>HX.out kids[i] hmem m _ (pre++[xc]++L) W' hrx (HO.out _ hmem) hcc hh hj hbd);have HCW:=Lib.hid hcw;have HPP:=Lib.hid hpp;have hhw:=Nat.le_trans hhi HKW.out.size;have HB2:=Lib.hid (fun o=>Kept.alloc (lo:=lo) (hi:=hi) (e:=et) wr o)
     have HS2:Hid (∀o:Obj,hi<=(wr.alloc o).heap.size):=fun o=>by simp;omega
     have HJJ:Hid (∀o:Obj,J (pre++[xc]++L) (wr.alloc o)):=fun o=>HJ.out _ _ _ HJL.out;have HC2:Hid (∀o:Obj,Cells w0 (wr.alloc o)):=fun o=>(HB2.out o).cells HCW.out hlo;clear hx1 hr1 hcw hmem hrx hpp hbd hlen
     gi_wp2_with fail
     refine (HH1.out _ _ (HC2.out _) (HS2.out _) (HJJ.out _)).mono ?_
     rintro e W3 (⟨rfl,⟨L3,hL3,hJ3⟩,hk3⟩|⟨rfl,q,hq,hx3⟩)
     ·have HL3:=Lib.hid hL3;have HJ3:=Lib.hid hJ3;have HK3:=Lib.hid (HKW.out.trans ((HB2.out _).trans hk3));clear hL3 hJ3 hk3
      gi_wp2_with fail
      go_roundw
      case rel=>exact ⟨rfl,i+1,by go_num,by omega,HK3.out,L++L3,by rw [HPP.out];simp [HL.out,HL3.out],by simpa using HJ3.out⟩
      case measure=>simp [intOf];omega
     ·have HQ:=Lib.hid hq;have HX3:=Lib.hid hx3;clear hq hx3
      gi_wp2_with fail
      go_ret
      refine .inr ⟨rfl,[xc]++(L++q), ?_,by simpa using HX3.out⟩;obtain ⟨r,hr⟩:=HQ.out;have h2:=iA (kids.take (i+1)) (kids.drop (i+1));rw [List.take_append_drop,HPP.out] at h2;refine ⟨r++(bE (kids.drop (i+1))).map Ex.sig, ?_⟩;rw [h2];simp [HXS.out,Ex.sig,HL.out, <- hr]
    ·gi_wp2
     go_ret
     obtain rfl:i=kids.length:=by omega
     refine .inl ⟨rfl,⟨[xc]++L, ?_,by simpa using HJL.out⟩,HKW.out⟩;simp [HXS.out,Ex.sig,HL.out]
  ·gi_wp2
   go_ret
   exact .inr ⟨rfl,[xc],by simp [HXS.out,Ex.sig],hx2⟩
theorem qR (F:Fence) (hF: ∀f,F.fn f) (hd:F.depth=none) (hro:F.round=none) (n lo hi B:Nat) (et:TypeId) (het:25≠et) (x:Ex) (cx:List Value) (w0 w:World) (hlo:w0.heap.size<=lo) (hhi:hi<=w.heap.size)
  (hx:dt w0 x cx) (hok:x.ok) (hc:Cells w0 w) (hB:w.heap[B]? = some (.cells cx.toArray 25)) :
  SeqStopsK F n Tryz.prog 74 #[.pointer (some ⟨B,0,none⟩)] (fun c:XC=> #[c.val]) (Kept lo hi et) (fun L=>L.map XC.sig=(ah x).map Ex.sig) (fun q=>q.map XC.sig <+: (ah x).map Ex.sig) (ah x).length w:=by
 intro l J Jx W hW hJ hJx hY h0;have hw:=F7 F hF hd hro l (ah x).length lo hi et het J Jx w0 hlo (fun pre W o h=>hJ pre _ _ none h (World.grownBy_alloc W o none) (fun r e=>by cases e)) (fun m pre c W hj hl=>qD hd m (hY pre c W hj hl)) x (n - 1) cx [] W hx hok (hc.trans (.of hW)) (Nat.le_trans hhi hW.size) h0 (by simp);obtain ⟨k,s,kids⟩:=x;rw [dt] at hx;obtain ⟨sv,rfl,hr⟩:=hx;obtain ⟨p,c,rfl, -, -⟩:=hr.shape;have hbw:=(hW.block B (Array.getElem?_eq_some_iff.1 hB).1).trans hB;have c0:=aH hbw 0;have c1:=aH hbw 1;have c2:=aH hbw 2;simp only [UO,VY,VC] at c0 c1 c2;have HW:=Lib.hid hw
 have hdd: ∀k:Nat,(F.depth.isSome=true->1<=k):=fun k h=>by rw [hd] at h;cases h
 clear hw hJ hJx hY h0 hr hbw hB hc hW;refine callsIn_of_wp Tryz.func74 rfl (hF _) ?_ hro;simp only [Tryz.ntmps74,List.size_toArray,List.length_cons,List.length_nil,Nat.reduceAdd,Nat.reduceSub,V2,V3,List.push_toArray,List.append_toArray,List.nil_append,List.cons_append]
 gi_wp2_with fail
 refine HW.out.mono ?_
 rintro e W1 (⟨rfl,⟨L,hL,hJ1⟩, -⟩|⟨rfl,q,hq,hx⟩)
 ·have HL:=Lib.hid hL;have HJ1:=Lib.hid hJ1;clear hL hJ1
  gi_wp2
  go_end0
  exact ⟨⟨_,rfl⟩, .inl ⟨L,HL.out,by simpa using HJ1.out⟩⟩
 ·have HQ:=Lib.hid hq;have HX:=Lib.hid hx;clear hq hx
  gi_wp2
  go_end0
  exact ⟨⟨_,rfl⟩, .inr ⟨q,HQ.out,by simpa using HX.out⟩⟩
theorem vL (k:Int) (s:ByteArray) (p:Option Addr) (n c:Nat) (w:World) :
  Calls Tryz.prog 49 #[.agg #[.int .i64 k, .string s, .slice p n c]] w fun e w'=>e = .returned (.func (.func 74) #[] #[.pointer (some ⟨w.heap.size,0,none⟩)])∧w.alloc (.cells #[.int .i64 k, .string s, .slice p n c] 25)=w':=by
 go_enter Tryz.func49,Tryz.ntmps49
 go_wp2_with fail
 go_ret
 exact ⟨rfl,rfl⟩
end
section
open Go.RowKit Go.Shelf
attribute [local go_sem] Oper.semAt_some
theorem xk {x:Ex} {q:List XC} (h:q.map XC.sig <+: (ah x).map Ex.sig) (hq:24<q.length∨ ∃c,c∈q∧qQ c.sig=false):ay x=false:=by
 rw [qI];obtain ⟨r,hr⟩:=h;rw [<-hr]
 rcases hq with hq|⟨c,hc,hf⟩
 ·rw [decide_eq_false (by simp;omega),V4]
 ·have:(q.map XC.sig++r).all qQ=false:=by
   rw [List.all_eq_false];exact ⟨c.sig,by simp;exact .inl ⟨c,hc,rfl⟩,by rw [hf];decide⟩
  rw [this,Bool.and_false]
theorem xj {x:Ex} {q:List XC} (h:q.map XC.sig=(ah x).map Ex.sig) (hq:q.length<=24) (hp: ∀c,c∈q->qQ c.sig=true):ay x=true:=by
 rw [qI, <- h,decide_eq_true (by simpa using hq),Bool.true_and,List.all_map,List.all_eq_true];exact hp
theorem um (x:Ex) (cx:List Value) (w:World) (hx:dt w x cx) (hok:x.ok) :
  Calls Tryz.prog 27 #[.agg cx.toArray] w (AZ w (.bool (ay x))):=by
 obtain ⟨k,s,kids⟩:=x;have hx':=hx;rw [dt] at hx;obtain ⟨sv,rfl,hr⟩:=hx;obtain ⟨p,c,rfl, -, -⟩:=hr.shape;refine (callsIn_wide (n:=9)).1 ?_;have HX:=Lib.hid hx';have HO:=Lib.hid hok;clear hx' hok hr;refine callsIn_of_wp_marks Tryz.func27 rfl trivial ?_ rfl;simp only [Tryz.ntmps27,List.size_toArray,List.length_cons,List.length_nil,Nat.reduceAdd,Nat.reduceSub,Array.replicate_succ,Array.replicate_zero,List.push_toArray,List.append_toArray,List.nil_append,List.cons_append]
 gi_wp2_with fail
 refine ⟨trivial, ?_⟩;refine (callsIn_wide.2 (vL _ _ _ _ _ _)).mono ?_;rintro e w' ⟨rfl,rfl⟩
 gi_wp2_with fail
 obtain ⟨bx,hbx⟩: ∃bx:Obj,bx = .cells #[.int .i64 k, .string s, .slice p kids.length c] 25:=⟨_,rfl⟩;rw [<-hbx];obtain ⟨W0,hW0⟩: ∃W0,(((w.alloc bx).alloc (.cells #[.bool false] 4)).alloc (.cells #[.int .i64 0] 3)).alloc bx=W0:=⟨_,rfl⟩
 have hs0:W0.heap.size=w.heap.size+4:=by rw [<-hW0];simp
 have hb0:Below w.heap.size w W0:=by rw [<-hW0];exact ((((Below.refl w.heap.size w).alloc (Ut _) _).alloc (by simp) _).alloc (by simp;omega) _).alloc (by simp;omega) _
 have hbr:W0.heap[w.heap.size+1]? = some (.cells #[.bool false] 4 (0,0)):=by rw [<-hW0];exact jL (jL (by simpa using e7 (w.alloc bx) _) _) _
 have hbn:W0.heap[w.heap.size+2]? = some (.cells #[.int .i64 0] 3 (0,0)):=by rw [<-hW0];exact jL (by simpa using e7 ((w.alloc bx).alloc (.cells #[.bool false] 4)) _) _
 have hbp:W0.heap[w.heap.size+3]? = some bx:=by rw [<-hW0];simpa using e7 (((w.alloc bx).alloc (.cells #[.bool false] 4)).alloc (.cells #[.int .i64 0] 3)) bx
 rw [hbx] at hbp;have hseq:=qR Fence.wide (fun _=>trivial) rfl rfl 8 w.heap.size (w.heap.size+3) (w.heap.size+3) 0 (by decide) _ _ w W0 (Ut _) (by omega) HX.out HO.out (.of hb0) hbp;rw [hW0];clear hbx
 refine Jf (lb:= #[.pointer (some ⟨w.heap.size+3,0,none⟩)]) (gf:=74) rfl (enters_of Tryz.func74 (by kernel_rfl) rfl) hseq (Below.refl _ _) (fun _=>rfl)
  (fun pre W=>(Below w.heap.size w W∧W.heap[w.heap.size+2]? = some (.cells #[.int .i64 pre.length] 3 (0,0))∧W.heap[w.heap.size+1]? = some (.cells #[.bool false] 4 (0,0))∧W0.heap.size<=W.heap.size)∧pre.length<=24∧ ∀c,c∈pre->qQ c.sig=true)
  (fun c pre W=>(Below w.heap.size w W∧W.heap[w.heap.size+1]? = some (.cells #[.bool false] 4 (0,0)))∧c = .ret∧(24<pre.length∨ ∃c,c∈pre∧qQ c.sig=false))
  (((ownFrom_below (Ut _) (by omega)).and ((jQ _ _ (fun s:List XC=> #[.int .i64 s.length]) _).and ((jQ _ _ (fun _:List XC=> #[.bool false]) _).and (fun _ _ _ _ hs hg _=>Uu hs hg.size)))).and (ownFrom_pure _ _))
  (fun _=>((ownFrom_below (Ut _) (by omega)).and (jQ _ _ (fun _:List XC=> #[.bool false]) _)).and (ownFrom_pure _ _))
  ⟨⟨hb0,hbn,hbr,Ut _⟩,UE _,fun _ h=>by cases h⟩ 4 (fun c=> #[.int .i64 c.kind, .string c.label, .slice c.ptr c.len c.cap]) 25 (fun _ _ h=>h.1.2.2.2) ?assign ?body ?done ?stop
 case assign=>
  intro l x W K hK;simp only [handed,XC.val,V5,V6,V7,V8,V9,Wa,Wb];simp only [handed,XC.val,Act.ov,V5,V6,V7,V8,V9,Wa,Wb] at hK
  gi_wp2
  exact hK
 case body=>
  rintro l pre x B W hl hrec ⟨⟨hb,hn,hr,hsz⟩,hle,hall⟩ hB hbB hlen;have hcn:=aH hn 0;have hfn:=ct hn 0;have hcr:=aH hr 0;have hfr:=ct hr 0;have hp0:=aH hbB 0;have hp1:=aH hbB 1;have hp2:=aH hbB 2;simp only [UO,VC,List.getElem?_cons_succ] at hcn hcr hp0 hp1 hp2
  have hB1: ¬B=w.heap.size+2:=by omega
  have hB2: ¬w.heap.size+2=B:=by omega
  obtain ⟨W1,hW1⟩: ∃W1,W1=W.setCell ⟨w.heap.size+2,0,none⟩ (.int .i64 ((pre.length:Int)+1)):=⟨_,rfl⟩
  have hk1:Kept w.heap.size (w.heap.size+3) 0 W W1:=by rw [hW1];exact Kept.setCell W (by omega) (by omega) _
  have hf1:KeepsFrom W0.heap.size W W1:=by rw [hW1];exact (KeepsOthers.setCell _ _ _).from _
  have hbw1:Below w.heap.size w W1:=by rw [hW1];exact hb.setCell (p:=⟨w.heap.size+2,0,none⟩) (by simp) _
  have hn1:W1.heap[w.heap.size+2]? = some (.cells #[.int .i64 ((pre++[x]).length:Nat)] 3 (0,0)):=by rw [hW1];simpa using jh hn (.int .i64 ((pre.length:Int)+1))
  have hr1:W1.heap[w.heap.size+1]? = some (.cells #[.bool false] 4 (0,0)):=by rw [hW1];exact dv hr _ (by omega)
  have hz1:W0.heap.size<=W1.heap.size:=by rw [hW1];exact Uu hsz (KeepsOthers.setCell _ _ _).size
  have HA:=Lib.hid (show _∧_∧_∧_∧_∧_ from ⟨hk1,hf1,hbw1,hn1,hr1,hz1⟩)
  have hzl:w.heap.size+1<W1.heap.size:=by omega
  have HP:=Lib.hid (fun W'=>IV x.kind x.label x.ptr x.len x.cap W' x.hl x.hn);have HS:Hid (∀b,bg x.kind x.label x.len=b->qQ x.sig=b):=fun b h=>h;have HALL:=Lib.hid hall;have HB0:=Lib.hid hb;have HW1:=Lib.hid hW1;clear hb hn hr hbB hk1 hf1 hbw1 hn1 hr1 hz1 hall hW1 hsz;simp only [handed,Act.ov,V5,V6,V7,V8,V9,Wa,Wb]
  by_cases h24:pre.length=24
  ·have hgt:(24:Int)<(pre.length:Int)+1:=by omega
   have H24:=Lib.hid h24;clear h24;have hcr1:=aH HA.out.2.2.2.2.1 0;have hfr1:=ct HA.out.2.2.2.2.1 0;rw [HW1.out] at hcr1 hfr1;simp only [UO,VC] at hcr1
   gi_wp2_with fail
   refine ⟨trivial, ?_⟩
   gi_wp2
   obtain ⟨hk1,hf1,hbw1,hn1,hr1,hz1⟩:=HA.out;rw [HW1.out] at hf1 hbw1 hr1;refine ⟨hf1.trans ((KeepsOthers.setCell _ _ _).from _),⟨hbw1.setCell (p:=⟨w.heap.size+1,0,none⟩) (by simp) _,jh hr1 _⟩,rfl, .inl (by have:=H24.out;simp;omega)⟩
  ·have hgt: ¬(24:Int)<(pre.length:Int)+1:=by omega
   have H24:=Lib.hid h24;clear h24
   cases hpb:bg x.kind x.label x.len
   ·rw [hpb] at HP;have HPB:=Lib.hid (HS.out _ hpb);clear hpb
    gi_wp2_with fail
    refine ⟨trivial,(CallsIn.inRound l (callsIn_wide.2 (HP.out _))).mono ?_⟩;rintro e w2 ⟨rfl,hb2⟩
    have hb2':Below W1.heap.size W1 w2:=by rw [HW1.out];exact hb2
    clear hb2;obtain ⟨hk1,hf1,hbw1,hn1,hr1,hz1⟩:=HA.out;have hr2:w2.heap[w.heap.size+1]? = some (.cells #[.bool false] 4 (0,0)):=(hb2'.block _ (by omega)).trans hr1;have hcr1:=aH hr2 0;have hfr1:=ct hr2 0;simp only [UO,VC] at hcr1;have HR2:=Lib.hid hr2;have HB2:=Lib.hid hb2';clear hk1 hf1 hbw1 hn1 hr1 hz1 hr2 hb2'
    gi_wp2
    obtain ⟨hk1,hf1,hbw1,hn1,hr1,hz1⟩:=HA.out;exact ⟨(hf1.trans (lH HB2.out)).trans ((KeepsOthers.setCell _ _ _).from _),⟨(b9 hbw1 HB2.out).setCell (p:=⟨w.heap.size+1,0,none⟩) (by simp) _,jh HR2.out _⟩,rfl, .inr ⟨x,by simp,HPB.out⟩⟩
   ·rw [hpb] at HP;have HPB:=Lib.hid (HS.out _ hpb);clear hpb
    gi_wp2_with fail
    refine ⟨trivial,(CallsIn.inRound l (callsIn_wide.2 (HP.out _))).mono ?_⟩;rintro e w2 ⟨rfl,hb2⟩
    have HB2:Hid (Below W1.heap.size W1 w2):=by show Below _ _ _;rw [HW1.out];exact hb2
    clear hb2
    gi_wp2
    obtain ⟨hk1,hf1,hbw1,hn1,hr1,hz1⟩:=HA.out;have hb2:=HB2.out;refine ⟨hf1.trans (lH hb2),hk1.trans (Kept.below hb2),⟨b9 hbw1 hb2,(hb2.block _ (by omega)).trans hn1,(hb2.block _ (by omega)).trans hr1,Uu hz1 hb2.size⟩,by have:=H24.out;simp;omega, ?_⟩;intro c hc
    rcases List.mem_append.1 hc with hc|hc
    ·exact HALL.out c hc
    ·rw [List.mem_singleton.1 hc];exact HPB.out
 case done=>
  rintro D xs W hD hS ⟨⟨hb,hn,hr,hsz⟩,hle,hall⟩ hK;have hcr:=aH hr 0;have hfr:=ct hr 0;simp only [UO,VC] at hcr;have hfin:=xj hS hle hall;have HF:=Lib.hid hfin;have HR:=Lib.hid hr;have HB:=Lib.hid hb;have HK:=Lib.hid hK;have HD:=Lib.hid hD;have H0:=Lib.hid hs0;clear hb hn hr hsz hle hall hK hD hS hfin hW0 hb0 hbr hbn hbp hseq hs0
  gi_wp2
  have hD:=HD.out;have h0:=H0.out;have hKs:=dv HK.out (b:=w.heap.size+1) (o:=0) (.bool true) (by omega);refine ⟨by simp, .inl ⟨_,_,rfl,run_takeDeferred hKs, ?_⟩⟩;have hbx:=du (jh HR.out (.bool true)) (.deferred none) (D:=D) (by omega);have hcf:=aH hbx 0;simp only [UO,VC] at hcf
  refine ⟨.bool true, ?_,cf rfl HF.out.symm ?_⟩
  ·simp [results,Tryz.results27,go_sem,hcf]
  ·exact kR (HB.out.setCell (p:=⟨w.heap.size+1,0,none⟩) (Nat.le_succ _) _) (by omega) _ hKs
 case stop=>
  rintro D c pre W hD hSp ⟨⟨hb,hr⟩,rfl,hq⟩ hK;have hfin:=xk hSp hq;have HF:=Lib.hid hfin;have HR:=Lib.hid hr;have HB:=Lib.hid hb;have HK:=Lib.hid hK;have HD:=Lib.hid hD;have H0:=Lib.hid hs0;clear hb hr hK hD hSp hq hfin hW0 hb0 hbr hbn hbp hseq hs0
  gi_wp2
  have hD:=HD.out;have h0:=H0.out;refine ⟨by simp, .inl ⟨_,_,rfl,run_takeDeferred HK.out, ?_⟩⟩;have hbx:=du HR.out (.deferred none) (D:=D) (by omega);have hcf:=aH hbx 0;simp only [UO,VC] at hcf
  refine ⟨.bool false, ?_,cf rfl HF.out.symm ?_⟩
  ·simp [results,Tryz.results27,go_sem,hcf]
  ·exact kR HB.out (by omega) _ HK.out
end
def uP (x:Ex):Prop:= ∀(y:Ex) (cx cy:List Value) (w:World),dt w x cx->dt w y cy ->
 Calls Tryz.prog 45 #[.agg cx.toArray, .agg cy.toArray] w (AZ w (.bool (fW x y)))
theorem x0 (xs:List Ex) (hx: ∀x,x∈xs->uP x) (ys:List Ex) (vx vy:Value) (w:World) (h1:iG w xs vx) (h2:iG w ys vy) :
  Calls Tryz.prog 73 #[vx,vy] w (AZ w (.bool (jO xs ys))):=by
 rw [nT];obtain ⟨p,c,rfl,hc1,hc2⟩:=h1.shape;obtain ⟨q,d,rfl,hd1,hd2⟩:=h2.shape;unfold maxLen at hc2 hd2
 by_cases hl:xs.length=ys.length
 ·have H1:=Lib.hid h1;have H2:=Lib.hid h2;have HX:=Lib.hid hx;have HL:=Lib.hid hl
  have hne:(((xs.length:Nat):Int) !=((ys.length:Nat):Int))=false:=by simp [hl]
  clear h1 h2 hx hl
  go_enter Tryz.func73,Tryz.ntmps73
  go_wp2_with fail
  go_loopw [4,5] (fun r i wr=> ∃k:Nat,k<=xs.length∧r = .bool false∧i = .int .i64 k∧Below w.heap.size w wr∧ ∀j (h:j<k) (h':j<xs.length) (h'':j<ys.length),fW xs[j] ys[j]=true) (fun _ i _=>xs.length - (intOf i).toNat)
  case atStart=>exact ⟨0,UE _,rfl,rfl,Below.refl _ _,fun j h=>by omega⟩
  case round=>
   obtain ⟨k,hk,rfl,rfl,hb,hP⟩:=hrel;have HP:=Lib.hid hP;clear hP
   by_cases hlt:k<xs.length
   ·have hlt2:k<ys.length:=by have:=HL.out;omega
    obtain ⟨b1,o1,k1,s1,l1,v1,rfl,hx1,hr1,a0,a1,a2⟩:=(H1.out.below hb).at hlt;obtain ⟨b2,o2,k2,s2,l2,v2,rfl,hx2,hr2,c0,c1,c2⟩:=(H2.out.below hb).at hlt2;have HC:=Lib.hid (HX.out xs[k] (List.getElem_mem _) ys[k] [.int .i64 k1, .string s1,v1] [.int .i64 k2, .string s2,v2] wr.drew (by rw [hx1,dt];exact ⟨v1,rfl,hr1.below (cr wr)⟩) (by rw [hx2,dt];exact ⟨v2,rfl,hr2.below (cr wr)⟩));clear hx1 hr1 hx2 hr2
    cases hs:fW xs[k] ys[k]
    ·rw [hs] at HC;have HS:=Lib.hid hs;clear hs
     go_wp2_with fail
     go_still_tail 8,(by kernel_rfl)
     change wpList _ _ _ _ _ wr.drew
     go_wp2_with fail
     refine HC.out.mono ?_;rintro e w' ⟨rfl,hb'⟩
     go_wp2_with fail
     go_ret
     exact cf rfl (CV hlt hlt2 HS.out).symm (b9 hb (Below.JO hb'))
    ·rw [hs] at HC;have HS:=Lib.hid hs;clear hs
     go_wp2_with fail
     go_still_tail 8,(by kernel_rfl)
     change wpList _ _ _ _ _ wr.drew
     go_wp2_with fail
     refine HC.out.mono ?_;rintro e w' ⟨rfl,hb'⟩
     go_wp2_with fail
     go_roundw
     case rel=>exact ⟨k+1,by omega,rfl,by go_num,b9 hb (Below.JO hb'),fun j h h' h''=>by
      by_cases e:j=k
      ·subst e;exact HS.out
      ·exact HP.out j (by omega) h' h''⟩
     case measure=>simp [intOf];omega
   ·go_wp2_with fail
    go_ret
    have hk':k=xs.length:=by omega
    exact cf rfl (l7.2 ⟨HL.out,fun i h h'=>HP.out i (by omega) h h'⟩).symm hb
 ·have hne:(((xs.length:Nat):Int) !=((ys.length:Nat):Int))=true:=by simp;omega
  clear h1 h2 hx;rw [yA hl];clear hl
  go_enter Tryz.func73,Tryz.ntmps73
  go_wp2_with fail
  go_ret
  exact ⟨rfl,Below.refl _ _⟩
theorem xZ (x:Ex):uP x:=by
 induction x using Ex.ind with
 | h k s l ih=>
  intro y cx cy w hx hy;obtain ⟨k',s',l'⟩:=y;rw [dt] at hx hy;obtain ⟨vx,rfl,hx⟩:=hx;obtain ⟨vy,rfl,hy⟩:=hy;rw [fW];have HB: ∀o o',Below w.heap.size w ((w.alloc o).alloc o'):=fun o o'=>((Below.refl _ _).alloc (Ut _) o).alloc (by simp) o'
  cases hk:k==k'
  ·clear ih hx hy;rw [V4,V4];have HB':=Lib.hid HB;clear HB
   go_enter Tryz.func45,Tryz.ntmps45
   go_wp2_with fail
   go_ret
   exact cf rfl rfl (HB'.out _ _)
  ·cases hs:s.toList==s'.toList
   ·clear ih hx hy;rw [Bool.and_false,V4];have HB':=Lib.hid HB;clear HB
    go_enter Tryz.func45,Tryz.ntmps45
    go_wp2_with fail
    go_ret
    exact cf rfl rfl (HB'.out _ _)
   ·rw [Bool.and_true,Bool.true_and];have HC:=Lib.hid (fun w' (hb:Below w.heap.size w w')=>x0 l ih l' vx vy w' (hx.below hb) (hy.below hb));have HB':=Lib.hid HB;clear ih hx hy HB
    go_enter Tryz.func45,Tryz.ntmps45
    go_wp2_with fail
    refine (HC.out _ (HB'.out _ _)).mono ?_;rintro e w' ⟨rfl,hb'⟩
    go_wp2_with fail
    go_ret
    exact cf rfl rfl (b9 (HB'.out _ _) hb')
theorem uJ (xs ys:List ByteArray) (vx vy:Value) (w:World) (h1:jY w xs vx) (h2:jY w ys vy) :
  Calls Tryz.prog 48 #[vx,vy] w (AZ w (.bool (jE cw xs ys))):=by
 obtain ⟨p,c,rfl,hc1,hc2⟩:=h1.shape;obtain ⟨q,d,rfl,hd1,hd2⟩:=h2.shape;unfold maxLen at hc2 hd2
 by_cases hl:xs.length=ys.length
 ·have H1:=Lib.hid h1;have H2:=Lib.hid h2;have HL:=Lib.hid hl
  skip
  have hne:(((xs.length:Nat):Int) !=((ys.length:Nat):Int))=false:=by simp [hl]
  clear h1 h2 hl
  go_enter Tryz.func48,Tryz.ntmps48
  go_wp2_with fail
  go_loopw [4,5] (fun r i wr=> ∃k:Nat,k<=xs.length∧r = .bool false∧i = .int .i64 k∧Below w.heap.size w wr∧ ∀j (h:j<k) (h':j<xs.length) (h'':j<ys.length),cw xs[j] ys[j]=true) (fun _ i _=>xs.length - (intOf i).toNat)
  case atStart=>exact ⟨0,UE _,rfl,rfl,Below.refl _ _,fun j h=>by omega⟩
  case round=>
   obtain ⟨k,hk,rfl,rfl,hb,hP⟩:=hrel;have HP:=Lib.hid hP;clear hP
   by_cases hlt:k<xs.length
   ·have hlt2:k<ys.length:=by have:=HL.out;omega
    obtain ⟨b1,o1,rfl,a0⟩:=qp (H1.out.below hb) hlt;obtain ⟨b2,o2,rfl,c0⟩:=qp (H2.out.below hb) hlt2
    cases hs:cw xs[k] ys[k]
    ·have HS:=Lib.hid hs;unfold cw at hs
     go_wp2_with fail
     go_still (by kernel_rfl)
     go_wp2_with fail
     go_ret
     exact cf rfl (CV hlt hlt2 HS.out).symm hb.drew
    ·have HS:=Lib.hid hs;unfold cw at hs
     go_wp2_with fail
     go_still (by kernel_rfl)
     go_wp2_with fail
     go_roundw
     case rel=>exact ⟨k+1,by omega,rfl,by go_num,hb.drew,fun j h h' h''=>by
      by_cases e:j=k
      ·subst e;exact HS.out
      ·exact HP.out j (by omega) h' h''⟩
     case measure=>simp [intOf];omega
   ·go_wp2_with fail
    go_ret
    have hk':k=xs.length:=by omega
    exact cf rfl (l7.2 ⟨HL.out,fun i h h'=>HP.out i (by omega) h h'⟩).symm hb
 ·have hne:(((xs.length:Nat):Int) !=((ys.length:Nat):Int))=true:=by simp;omega
  clear h1 h2;rw [yA hl];clear hl
  go_enter Tryz.func48,Tryz.ntmps48
  go_wp2_with fail
  go_ret
  exact cf rfl rfl (Below.refl _ _)
section
open Go.RowKit
end
section
open Go.RowKit
end
section
def Q6 (f:FuncId) (cap:List Value) (q:ny->Bool) (w:World):Prop:= ∀(x:ny) (k:Int) (s:ByteArray) (l:List Ex) (v:Value) (W:World),Below w.heap.size w W->x.ok->x.expr = .mk k s l->iG W l v ->
 Calls Tryz.prog f (.agg #[.string x.gq, .string x.to, .bool x.path, .string x.label, .string x.name, .int .i64 k, .string s,v] :: cap).toArray W (AZ W (.bool (q x)))
def Q4 (f:FuncId) (cap:List Value) (q:Cq->Bool) (w:World):Prop:= ∀(x:Cq) (W:World),Below w.heap.size w W->x.ok ->
 Calls Tryz.prog f (.agg #[.int .i64 x.op, .int .i64 x.left.kind, .string x.left.name, .string x.left.key, .int .i64 x.left.val.kind, .int .i64 x.left.val.num, .string x.left.val.text, .int .i64 x.right.kind, .string x.right.name, .string x.right.key, .int .i64 x.right.val.kind, .int .i64 x.right.val.num, .string x.right.val.text] :: cap).toArray W (AZ W (.bool (q x)))
def Q5 (f:FuncId) (cap:List Value) (q:uo->Bool) (w:World):Prop:= ∀(x:uo) (W:World),Below w.heap.size w W->x.ok ->
 Calls Tryz.prog f (.agg #[.int .i64 x.kind, .string x.name, .string x.key, .int .i64 x.val.kind, .int .i64 x.val.num, .string x.val.text] :: cap).toArray W (AZ W (.bool (q x)))
theorem Ah (xs ys:List ByteArray):ar Tryz.prog 48 [ba xs,ba ys] (.v (.bool (jE cw xs ys))):=
 .xN (by kernel_rfl) (by simp only [aV,ba,AV.wf,a7,Bool.and_self]) (fun D nu w vargs h=>by
  obtain ⟨x,y,rfl,hx,hy⟩:=xQ h
  exact uJ xs ys x y w (DD hx) (DD hy))
section
variable {P:Program}
theorem dD {s:AS} {k i j:Nat} {ob:aa} {row:List AV} (T':TypeId) (z':Nat) (hz':0<z') (hk:s.o[k]? = some (some ob)) (hz:0<ob.z) (hr:ob.rows[i]? = some row) (hj:row[j]? = some (.v (.slice none 0 0))) :
  yq s (AS.mk s.t ((s.o++[some (aa.mk T' z' true [])]).set k (some { ob with rows:=ob.rows.set i (row.set j (.vec s.o.length 0)) })) s.y):=by
 intro f D nu a w hs
 have hv: ∀b,cQ (Value.slice none 0 0)=some b->w.heap.size<=b:=fun b e=>by cases e
 have hp:=gL (nu:=nu) (o:=s.o) (ob:=⟨T',z',true,[]⟩) (Below.refl w.heap.size w) hv;have hro:=mV (ob:=⟨T',z',true,[]⟩) hs.ro (Below.refl _ _) hv (.inl ⟨rfl,rfl,rfl⟩);have hlt:=(Uy.1 hk).1
 have hk':(s.o++[some (⟨T',z',true,[]⟩:aa)])[k]? = some (some ob):=by rw [List.getElem?_append_left hlt];exact hk
 have hh:ob.hl=({ ob with rows:=ob.rows.set i (row.set j (.vec s.o.length 0)) }:aa).hl:=by simp [aa.hl]
 obtain ⟨g,cur,hb⟩: ∃g cur,yn D (jb nu s.o.length (.slice none 0 0)) (s.o++[some ⟨T',z',true,[]⟩]) w k ob g cur:=by
  rcases hro.obj k ob hk' with ⟨_,e,_⟩|h|⟨g,es,cl,hm⟩
  ·rw [e] at hr;simp at hr
  ·exact h
  ·have:=hm.z;omega
 have hm:=kJ (nu:=jb nu s.o.length (.slice none 0 0)) (o:=s.o++[some ⟨T',z',true,[]⟩]) (w:=w) (w':=w) (ob':={ ob with rows:=ob.rows.set i (row.set j (.vec s.o.length 0)) }) hk' hh.symm hb.bA rfl rfl rfl rfl (fun _ _=>rfl);refine ⟨jb nu s.o.length (.slice none 0 0),hp.trans hm,rfl, ?_,(hs.tm.mono hp (fun _ _ h=>h)).mono hm (fun _ _ h=>h),hs.js⟩;have hil:=(Uy.1 hr).1;have hjl:=(Uy.1 hj).1
 have key: ∀(i' j':Nat) r c,(ob.rows.set i (row.set j (.vec s.o.length 0)))[i']? = some r->r[j']? = some c-> ∃r0 c0,ob.rows[i']? = some r0∧r0[j']? = some c0∧(c=c0∨(c = .vec s.o.length 0∧c0 = .v (.slice none 0 0))):=by
  intro i' j' r c h1 h2
  by_cases hi:i=i'
  ·subst hi;rw [UU hil] at h1;cases h1
   by_cases hj':j=j'
   ·subst hj';rw [UU hjl] at h2;cases h2;exact ⟨row,_,hr,hj, .inr ⟨rfl,rfl⟩⟩
   ·rw [UT hj'] at h2;exact ⟨row,c,hr,h2, .inl rfl⟩
  ·rw [UT hi] at h1;exact ⟨r,c,h1,h2, .inl rfl⟩
 refine tW hro hk' hh.symm hb.bA hm (fun _ _=>rfl) (cur:=cur) ⟨hb.ew,hb.nj,fun hv'=> ?_,fun hv'=> ?_,hb.z,fun i' r hi'=> ?_,fun i' j' r c x h1 h2 h3=> ?_,fun i' j' r c x h1 h2 h3=> ?_⟩
 ·obtain ⟨q1,q2,q3⟩:=hb.box hv';exact ⟨q1,by simpa using q2,q3⟩
 ·obtain ⟨cap,q1,q2,q3,q4⟩:=hb.vec hv';exact ⟨cap,by simpa using q1,by simpa using q2,q3,q4⟩
 ·by_cases hi:i=i'
  ·subst hi;rw [UU hil] at hi';cases hi';rw [List.length_set];exact hb.row i row hr
  ·rw [UT hi] at hi';exact hb.row i' r hi'
 ·obtain ⟨r0,c0,k1,k2,e⟩:=key i' j' r c h1 h2;have h0:=hb.cell i' j' r0 c0 x k1 k2 h3
  rcases e with rfl|⟨rfl,rfl⟩
  ·exact h0.mono hm (fun _ _ h=>h)
  ·obtain rfl:=h0.cU
   have:=RA.vec (D:=D) (nu:=jb nu s.o.length (.slice none 0 0)) (o:=(s.o++[some (⟨T',z',true,[]⟩:aa)])) (w:=w) s.o.length 0 ⟨_,List.getElem?_concat_length,fun x hx=>UE _⟩ (by rw [bV];rfl)
   rw [bV] at this;exact this.mono hm (fun _ _ h=>h)
 ·obtain ⟨r0,c0,k1,k2,_⟩:=key i' j' r c h1 h2;exact hb.one i' j' r0 c0 x k1 k2 h3
end
def TY (l:List ByteArray):List (List AV):=l.map (fun s=>[.v (.string s)])
end
section
structure gY where
 d:Tmp
 k:Nat
 e:TypeId
 z:Nat
 n:Nat
 zc:List AV
 bx:Bool:=false
def gY.ob (m:gY):aa:=⟨m.e,m.z, !m.bx,List.replicate m.n m.zc⟩
def gY.av (m:gY) (id:Nat):AV:=if m.bx then .ptr id 0 m.z 0 0 else .vec id m.n
def gY.val (m:gY) (b cap:Nat):Value:=if m.bx then .pointer (some ⟨b,0,none⟩) else .slice (some ⟨b,0,none⟩) m.n cap
theorem gY.QY (m:gY) (b cap:Nat):cQ (m.val b cap)=some b:=by unfold gY.val;split<;>rfl
theorem gY.qC (m:gY) (b cap:Nat):cd (m.val b cap)=some b:=by unfold gY.val;split<;>rfl
def yf (n0:Nat) (m:gY) (v:Value) (w:World):Prop:= ∃b cap cur,v=m.val b cap∧n0<=b∧w.heap[b]? = some (.cells cur m.e (0,0))∧m.n<=cap∧cap<=maxLen∧cur.size=cap * m.z∧0<m.z∧m.zc.length=m.z∧(m.bx=true->m.n=1∧cap=1) ∧
 ∀(i j:Nat) c x,i<m.n->m.zc[j]? = some c->cur[i * m.z+j]? = some x->c = .v x∧x.oneCell'=true
theorem yf.below {n0:Nat} {m:gY} {v:Value} {w w':World} (hb:Below w.heap.size w w') (h:yf n0 m v w):yf n0 m v w':=by
 obtain ⟨b,cap,cur,h1,h2,h3,h4⟩:=h;exact ⟨b,cap,cur,h1,h2,(hb.block b (Uw.1 h3).1).trans h3,h4⟩
section
variable {D:Nat->Prop} {nu:Nat->Nat->Value} {o:List (Option aa)} {w:World} {P:Program}
def Gb (nu:Nat->Nat->Value) (N:Nat) (h:Nat->Value):Nat->Nat->Value:=fun id len=>if id<N then nu id len else h (id - N)
theorem iW {N:Nat} {h:Nat->Value} {id len:Nat} (hl:id<N):Gb nu N h id len=nu id len:=by simp [Gb,hl]
theorem iV {N:Nat} {h:Nat->Value} {i len:Nat}:Gb nu N h (N+i) len=h i:=by rw [Gb,if_neg (by omega),Nat.add_sub_cancel_left]
theorem G6 {w0:World} (hro:RO D nu o w0) (hb:Below w0.heap.size w0 w) (ms:List gY) (h:Nat->Value) (hm: ∀i m,ms[i]? = some m->yf w0.heap.size m (h i) w)
  (hne: ∀i j,i<ms.length->j<ms.length->i≠j-> ∀b,cd (h i)=some b->cd (h j)≠some b) :
  bG nu o w0 (Gb nu o.length h) (o++ms.map (fun m=>some m.ob)) w∧RO D (Gb nu o.length h) (o++ms.map (fun m=>some m.ob)) w∧ ∀i m,ms[i]? = some m->RA D (Gb nu o.length h) (o++ms.map (fun m=>some m.ob)) w (m.av (o.length+i)) (h i):=by
 have old: ∀id,id<o.length->(o++ms.map (fun m=>some m.ob))[id]? = o[id]? :=fun id hl=>List.getElem?_append_left hl
 have new: ∀id ob,o.length<=id->(o++ms.map (fun m=>some m.ob))[id]? = some (some ob)-> ∃i m,id=o.length+i∧ms[i]? = some m∧ob=m.ob:=fun id ob hl hh=>by
  rw [U2 hl,UP] at hh
  cases hi:ms[id - o.length]? with
  | none=>rw [hi] at hh;cases hh
  | some m=>
   rw [hi] at hh;simp only [Option.map_some,UI] at hh;exact ⟨id - o.length,m,by omega,hi,hh.symm⟩
 have ew: ∀i m,ms[i]? = some m-> ∃b,w0.heap.size<=b∧cQ (h i)=some b∧cd (h i)=some b:=fun i m hi=>by
  obtain ⟨b,cap,cur,h1,h2,_⟩:=hm i m hi;exact ⟨b,h2,by rw [h1];exact m.QY b cap,by rw [h1];exact m.qC b cap⟩
 have hmo:bG nu o w0 (Gb nu o.length h) (o++ms.map (fun m=>some m.ob)) w:=by
  refine ⟨hb.os,hb.tape,hb.output,hb.size,fun id len hh=>⟨?_,iW (jt hh)⟩,fun b hlt hno=>⟨hb.block b hlt, ?_⟩⟩
  ·obtain ⟨x,h1,h2⟩:=hh;exact ⟨x,by rw [old id (Uy.1 h1).1];exact h1,h2⟩
  ·rintro ⟨id,ob,h1,h2⟩
   rcases UA id o.length with hl|hl
   ·rw [old id hl] at h1;rw [iW hl] at h2;exact hno ⟨id,ob,h1,h2⟩
   ·obtain ⟨i,m,rfl,hi,rfl⟩:=new id ob hl h1;rw [iV] at h2;obtain ⟨b',h3,h4,_⟩:=ew i m hi;rw [h4] at h2;cases h2;omega
 have row: ∀i m,ms[i]? = some m-> ∃g cur,yn D (Gb nu o.length h) (o++ms.map (fun m=>some m.ob)) w (o.length+i) m.ob g cur:=fun i m hi=>by
  obtain ⟨b,cap,cur,h1,h2,h3,h4,h5,h6,h7,h8,h10,h9⟩:=hm i m hi
  have inr: ∀(i':Nat) r,(List.replicate m.n m.zc)[i']? = some r->i'<m.n∧r=m.zc:=fun i' r hr=>by
   rw [List.getElem?_replicate] at hr
   split at hr
   ·cases hr;exact ⟨‹_›,rfl⟩
   ·cases hr
  refine ⟨b,cur,h3,hro.up b h2,fun e=> ?_,fun e=>⟨cap, ?_, ?_,h5,h6⟩,h7,fun i' r hr=> ?_,fun i' j r c x q1 q2 q3=> ?_,fun i' j r c x q1 q2 q3=> ?_⟩
  ·have hb:m.bx=true:=by simpa [gY.ob] using e
   obtain ⟨k1,k2⟩:=h10 hb;refine ⟨by rw [iV,h1,gY.val,if_pos hb],by simp [gY.ob,k1], ?_⟩;rw [h6,k2,Nat.one_mul];rfl
  ·have hb:m.bx=false:=by simpa [gY.ob] using e
   rw [iV,h1,gY.val,hb];simp [gY.ob]
  ·simpa [gY.ob] using h4
  ·obtain ⟨_,rfl⟩:=inr i' r hr;exact h8
  ·obtain ⟨hl,rfl⟩:=inr i' r q1;obtain ⟨rfl,_⟩:=h9 i' j c x hl q2 q3;exact .v _
  ·obtain ⟨hl,rfl⟩:=inr i' r q1;exact (h9 i' j c x hl q2 q3).2
 refine ⟨hmo,⟨fun id ob ho=> ?_,fun b hlt=>hro.up b (Nat.le_trans hb.size hlt),fun id id' ob1 ob2 b h1 h2 hd h3 h4=> ?_,hro.gl.mono hmo (fun _ _ h=>h)⟩,fun i m hi=> ?_⟩
 ·rcases UA id o.length with hl|hl
  ·rw [old id hl] at ho
   rcases hro.obj id ob ho with ⟨e1,e2,e3⟩|⟨g,cur,hr⟩|⟨g,es,cl,hmp⟩
   ·exact .inl ⟨e1,e2,by rw [iW hl];exact e3⟩
   ·refine .inr (.inl ⟨g,cur,(hb.block g (hro.bn ⟨id,ob,ho,hr.bA⟩)).trans hr.ew,hr.nj,fun e=> ?_,fun e=> ?_,hr.z,hr.row,fun i j row c x h1 h2 h3=>(hr.cell i j row c x h1 h2 h3).mono hmo (fun _ _ h=>h),hr.one⟩)
    ·rw [iW hl];exact hr.box e
    ·rw [iW hl];exact hr.vec e
   ·exact .inr (.inr ⟨g,es,cl,hmp.tr (hb.block g (hro.bn ⟨id,ob,ho,hmp.bA⟩)) (fun h=>h) (iW hl) (fun i j row c x _ _ hr=>hr.mono hmo (fun _ _ h=>h))⟩)
  ·obtain ⟨i,m,rfl,hi,rfl⟩:=new id ob hl ho;exact .inr (.inl (row i m hi))
 ·rcases UA id o.length with l1|l1
  ·rw [old id l1] at h1;rw [iW l1] at h3
   rcases UA id' o.length with l2|l2
   ·rw [old id' l2] at h2;rw [iW l2] at h4;exact hro.sep id id' ob1 ob2 b h1 h2 hd h3 h4
   ·obtain ⟨i,m,rfl,hi,rfl⟩:=new id' ob2 l2 h2;rw [iV] at h4;obtain ⟨b',q1,q2,_⟩:=ew i m hi;rw [q2] at h4;cases h4
    have:=hro.bn ⟨id,ob1,h1,h3⟩
    omega
  ·obtain ⟨i,m,rfl,hi,rfl⟩:=new id ob1 l1 h1;rw [iV] at h3;obtain ⟨b',q1,q2,q3⟩:=ew i m hi;rw [q2] at h3;cases h3
   rcases UA id' o.length with l2|l2
   ·rw [old id' l2] at h2;rw [iW l2] at h4
    have:=hro.bn ⟨id',ob2,h2,h4⟩
    omega
   ·obtain ⟨j,m',rfl,hj,rfl⟩:=new id' ob2 l2 h2;rw [iV] at h4;obtain ⟨b2,p1,p2,p3⟩:=ew j m' hj;rw [p2] at h4;cases h4;exact hne i j (Uy.1 hi).1 (Uy.1 hj).1 (fun e=>hd (by rw [e])) _ q3 p3
 ·obtain ⟨b,cap,cur,h1,_⟩:=hm i m hi
  have hg:(o++ms.map (fun m=>some m.ob))[o.length+i]? = some (some m.ob):=by rw [U2 (by omega),UP,show o.length+i - o.length=i by omega,hi];rfl
  cases hb:m.bx
  ·have:=RA.vec (D:=D) (nu:=Gb nu o.length h) (o:=o++ms.map (fun m=>some m.ob)) (w:=w) (o.length+i) m.n ⟨some m.ob,hg,fun x hx=>by cases hx;simp [aa.hl,gY.ob,hb]⟩ (by rw [iV,h1,gY.val,hb];rfl)
   rw [iV] at this;rw [gY.av,hb];exact this
  ·have:=RA.ptr (D:=D) (nu:=Gb nu o.length h) (o:=o++ms.map (fun m=>some m.ob)) (w:=w) (o.length+i) 0 m.z 0 0 b ⟨some m.ob,hg,fun x hx=>Nat.zero_le _⟩ (by rw [iV,h1];exact m.qC b cap)
   rw [gY.av,hb,h1,gY.val,hb];simpa using this
def Sf:List AV->Nat->List gY->List AV
 | t,_,[]=>t
 | t,N,m :: l=>Sf (t.set m.d (m.av N)) (N+1) l
def xG (s:AS) (ms:List gY):AS:=⟨Sf s.t s.o.length ms,s.o++ms.map (fun m=>some m.ob),s.y⟩
def AV.PN:AV->AV
 | .v x=> .v x
 | .ptr a b c d e=> .ptr a b c d e
 | .vec a b=> .vec a b
 | .agg cs=>if AV.flat (.agg cs) then .agg cs else .undef
 | .j9 _ (.v x)=> .v x
 | _=> .undef
theorem RA.PN {D':Nat->Prop} {nu':Nat->Nat->Value} {o':List (Option aa)} {w':World} (hh: ∀id len,df o id len->df o' id len∧nu' id len=nu id len) {c:AV} {x:Value} (h:RA D nu o w c x):RA D' nu' o' w' c.PN x:=by
 cases h with
 | v=>exact .v _
 | ptr id len z row off b h1 h2=>exact .ptr id len z row off b (hh _ _ h1).1 (by rw [(hh _ _ h1).2];exact h2)
 | vec id len h1 h2=>
  rw [<-(hh _ _ h1).2] at h2 ⊢;exact .vec id len (hh _ _ h1).1 h2
 | agg cs xs h1 h2 h3=>
  simp only [AV.PN]
  split
  ·rename_i hf;exact (RA.agg cs xs h1 h2 h3:RA D nu o w _ _).flat hf
  ·exact .undef _
 | j9 p a x S h0 h1 hc h2 h3=>
  cases a with
  | v y=>cases h3;exact .v _
  | _=>exact .undef _
 | _=>exact .undef _
def G4:List Tmp->List AV->List AV
 | [],t=>t
 | d :: ds,t=>G4 ds (t.set d (t.getD d .undef).PN)
def wN (P:Program) (T:TypeId) (n c:AV):Option (Prop×TypeId×Nat×Nat×List AV):=
 match P.underlying T,n,c with
 | some (.slice e), .v (.int _ l), .v (.int _ m)=>match lu P T,dZ P e with
  | some (_,z,bytes),some zr=>some (0<=l∧l<=m∧m.toNat * bytes<=140737488355328∧m.toNat<=140737488355328,e,z,l.toNat,zr)
  | _,_=>none
 | _,_,_=>none
theorem uS {T:TypeId} {n c:AV} {x y:Value} (hx:RA D nu o w n x) (hy:RA D nu o w c y) {p:Prop} {e:TypeId} {z l:Nat} {zr:List AV} (hl:wN P T n c=some (p,e,z,l,zr)) (hp:p) (d:Tmp) (k:Nat) :
  ∃v w',(Instr.makeSlice T x y).run P w = .ok v w'∧Below w.heap.size w w'∧yf w.heap.size ⟨d,k,e,z,l,zr,false⟩ v w':=by
 unfold wN at hl
 split at hl
 ·rename_i e0 kl l0 kc m hu
  split at hl
  ·rename_i e2 z0 bytes zr0 ht hz;simp only [UI,UJ] at hl;obtain ⟨rfl,rfl,rfl,rfl,rfl⟩:=hl;obtain ⟨h1,h2,h3,h4⟩:=hp;obtain ⟨hu',i,zv,hi,hzv,hzs,hz0,hsize,hbytes⟩:=dW ht;rw [hu] at hu';cases hu';obtain ⟨i',zv',hi',hzv',rfl,hone⟩:=fw hz;rw [hi] at hi';cases hi';rw [hzv] at hzv';cases hzv';cases hx;cases hy
   have hr:=run_make (P:=P) w T e0 i zv hu hi hzv kl kc l0 m h1 h2 (by
    have:(i.bytes:Int) * m=((m.toNat * i.bytes:Nat):Int):=by
     rw [Int.natCast_mul,Int.toNat_of_nonneg (by omega),Int.mul_comm]
    rw [this,hbytes];omega) (by omega)
   rw [hr];refine ⟨_,_,rfl,(Below.refl _ _).alloc (Ut _) _,w.heap.size,m.toNat,_,rfl,Ut _,heap_alloc_new w _,by show l0.toNat<=_;omega,by unfold maxLen;omega,by rw [size_madeCells,hsize],hz0,by simpa using hzs,fun e=>(by cases e),fun i1 j c x q0 q1 q2=> ?_⟩
   replace q0:i1<l0.toNat:=q0
   replace q1:(zv.cells.toList.map AV.v)[j]? = some c:=q1
   rw [UP] at q1
   cases hq:zv.cells.toList[j]? with
   | none=>rw [hq] at q1;cases q1
   | some u=>
    rw [hq] at q1;cases q1
    have hjl:j<zv.cells.size:=by have:=(Uy.1 hq).1;simpa using this
    have hlt2:i1 * z0+j<m.toNat * i.size:=by rw [hsize];exact mh (by omega) (by omega)
    have hmod:(i1 * z0+j) % zv.cells.size=j:=by rw [hzs];exact rq (by omega)
    replace q2:(madeCells zv.cells (m.toNat * i.size))[i1 * z0+j]? = some x:=q2
    simp only [madeCells,Array.getElem?_map,Array.getElem?_range,if_pos hlt2,Option.map_some,UI] at q2;rw [hmod] at q2
    have hu2:zv.cells[j]? = some u:=by simpa using hq
    rw [getElem!_pos zv.cells j hjl,(Uw.1 hu2).2] at q2;subst q2;exact ⟨rfl,hone u (U7 hq)⟩
  ·cases hl
 ·cases hl
def wC (P:Program) (T:TypeId):Option (Prop×TypeId×Nat×Nat×List AV):=
 match dZ P T with
 | some zr=>if 0<zr.length then some (True,T,zr.length,1,zr) else none
 | none=>none
theorem D9 {T:TypeId} {p:Prop} {e:TypeId} {z l:Nat} {zr:List AV} (hl:wC P T=some (p,e,z,l,zr)) (d:Tmp) (k:Nat) :
  ∃v w',(Instr.alloc T true (.tuple #[])).run P w = .ok v w'∧Below w.heap.size w w'∧yf w.heap.size ⟨d,k,e,z,l,zr,true⟩ v w':=by
 unfold wC at hl
 split at hl
 ·rename_i zr0 hz
  split at hl
  ·rename_i hpos;simp only [UI,UJ] at hl;obtain ⟨-, rfl,rfl,rfl,rfl⟩:=hl;obtain ⟨i,zv,hi,hzv,he,hone⟩:=fw hz
   have hzr:(zeroValue T).run P w = .ok zv w:=by simp [zeroValue,typeInfo,hi,hzv]
   have hrun:(Instr.alloc T true (.tuple #[])).run P w = .ok (.pointer (some ⟨w.heap.size,0,none⟩)) (w.alloc (.cells zv.cells T)):=by
    simp [Instr.alloc,newVar,newRow,hzr]
   rw [hrun]
   have hsz:zv.cells.size=zr0.length:=by rw [he];simp
   refine ⟨_,_,rfl,(Below.refl _ _).alloc (Ut _) _,w.heap.size,1,zv.cells,rfl,Ut _,heap_alloc_new w _,Ut _,by unfold maxLen;omega,by rw [hsz,Nat.one_mul],hpos,rfl,fun _=>⟨rfl,rfl⟩,fun i1 j c x q0 q1 q2=> ?_⟩
   replace q0:i1<1:=q0
   obtain rfl:i1=0:=by omega
   replace q1:zr0[j]? = some c:=q1
   rw [he,UP] at q1
   replace q2:zv.cells[0 * zr0.length+j]? = some x:=q2
   rw [Nat.zero_mul,Nat.zero_add] at q2
   have q3:zv.cells.toList[j]? = some x:=by simpa using q2
   rw [q3] at q1;cases q1;exact ⟨rfl,hone x (U7 q3)⟩
  ·cases hl
 ·cases hl
def Ke (g:Option (Nat×Bool)) (d:Option Tmp) (N:Nat) (x:Option (Prop×TypeId×Nat×Nat×List AV)) (K:Tmp->TypeId->Nat->Nat->List AV->Prop):Prop:=match g,d,x with
 | none,some d,some (p,e,z,n,zc)=>(p∧d<N)∧K d e z n zc
 | _,_,_=>False
theorem Gi (d N:Nat) (p:Prop) (e:TypeId) (z n:Nat) (zc:List AV) (K:Tmp->TypeId->Nat->Nat->List AV->Prop):Ke none (some d) N (some (p,e,z,n,zc)) K=((p∧d<N)∧K d e z n zc):=rfl
@[congr] theorem OR {g:Option (Nat×Bool)} {d:Option Tmp} {N N':Nat} {x x':Option (Prop×TypeId×Nat×Nat×List AV)} {K:Tmp->TypeId->Nat->Nat->List AV->Prop} (h:N=N') (k:x=x'):Ke g d N x K=Ke g d N' x' K:=by rw [h,k]
def fl (P:Program) (all tail:List Oper):List Oper->Nat->AS->List gY->List Tmp->(AS->Prop)->Prop
 | [],_,s,ms,ds,Q=>dM P all tail (xG ⟨G4 ds s.t,s.o,s.y⟩ ms) Q
 | oo :: rest,k,s,ms,ds,Q=>match oo.op with
  | .makeSlice T n c=>Ke oo.guard oo.dst s.t.length (wN P T (s.ev n) (s.ev c)) (fun d e z l zc=>fl P all tail rest (k+1) (s.put (some d) .undef s.o) (ms++[⟨d,k,e,z,l,zc,false⟩]) ds Q)
  | .alloc T=>Ke oo.guard oo.dst s.t.length (wC P T) (fun d e z l zc=>fl P all tail rest (k+1) (s.put (some d) .undef s.o) (ms++[⟨d,k,e,z,l,zc,true⟩]) ds Q)
  | _=>match oo.guard with
   | none=>bS P oo.op s (fun r=>fl P all tail rest (k+1) (s.put oo.dst r s.o) ms (oo.dst.toList++ds) Q)
   | some (j,want)=>ur (iS all s j) want (bS P oo.op s (fun r=>fl P all tail rest (k+1) (s.put oo.dst r s.o) ms (oo.dst.toList++ds) Q)) (fl P all tail rest (k+1) (s.put oo.dst (.v Go.undef) s.o) ms (oo.dst.toList++ds) Q)
structure TO (l:List Oper) (s:AS) (a:Act) (k:Nat) (sk:AS) (rs:List (AV×Option gY)) (A:(Nat->Value)->Act) (ms:List gY) (ds:List Tmp):Prop extends D6 l s a k sk (rs.map Prod.fst) A where
 row: ∀m,m∈ms->m.k<k∧rs[m.k]? = some (.undef,some m)∧(∃oi,l[m.k]? = some oi∧oi.dst=some m.d)∧ ∀x,(A x).tmps[m.d]? = some (x m.k)
 Tc:(ms.map gY.k).Nodup
 Ud: ∀(i:Nat) r m,rs[i]? = some (r,some m)->r = .undef
 dst: ∀(i:Nat) (oi:Oper) d r,i<k->l[i]? = some oi->oi.dst=some d->rs[i]? = some (r,none)->d∈ds
def oM:List (Option aa)->List AV->Option (Prop×List AV×List (Option aa))
 | o,[]=>some (True,[],o)
 | o, .vec id len :: l=>match o[id]? with
  | some (some ob)=>match oM (o.set id none) l with
   | some (p,m,o')=>some ((ob.fY=true∧ob.rows.length=len∧bw 0 ob.rows=true)∧p, .aC ob.z ob.rows len :: m,o')
   | none=>none
  | _=>none
 | o,a :: l=>match oM o l with
  | some (p,m,o')=>some (a.wf 0=true∧p,a :: m,o')
  | none=>none
theorem qc: ∀(args:List AV) {o:List (Option aa)} {p:Prop} {args':List AV} {o':List (Option aa)},oM o args=some (p,args',o')->p->RO D nu o w->bG nu o w nu o' w∧RO D nu o' w∧args.length=args'.length ∧
  ∀(i:Nat) a b x,args[i]? = some a->args'[i]? = some b->RA D nu o w a x->RA D nu o' w b x
 | [],o,p,args',o',he,hp,h=>by
  simp only [oM,UI,UJ] at he;obtain ⟨rfl,rfl,rfl⟩:=he;exact ⟨.refl _ _ _,h,rfl,fun i a b x h=>by simp at h⟩
 | a :: l,o,p,args',o',he,hp,h=>by
  have plain:(match oM o l with
   | some (p,m,o')=>some (a.wf 0=true∧p,a :: m,o')
   | none=>none)=some (p,args',o')->bG nu o w nu o' w∧RO D nu o' w∧(a :: l).length=args'.length∧ ∀(i:Nat) c b x,(a :: l)[i]? = some c->args'[i]? = some b->RA D nu o w c x->RA D nu o' w b x:=fun he=>by
   cases hg:oM o l with
   | none=>rw [hg] at he;cases he
   | some y=>
    obtain ⟨q,m,o2⟩:=y;rw [hg] at he;simp only [UI,UJ] at he;obtain ⟨rfl,rfl,rfl⟩:=he;obtain ⟨k1,k2,k3,k4⟩:=qc l hg hp.2 h;refine ⟨k1,k2,by simp [k3],fun i c b x q1 q2 hr=> ?_⟩
    cases i with
    | zero=>simp at q1 q2;subst q1;subst q2;exact hr.mono k1 (fun _ _ h=>h)
    | succ i=>exact k4 i c b x (by simpa using q1) (by simpa using q2) hr
  cases a with
  | vec id len=>
   simp only [oM] at he
   split at he
   ·rename_i ob ho
    cases hg:oM (o.set id none) l with
    | none=>rw [hg] at he;cases he
    | some y=>
     obtain ⟨q,m,o2⟩:=y;rw [hg] at he;simp only [UI,UJ] at he;obtain ⟨rfl,rfl,rfl⟩:=he;obtain ⟨⟨hv,rfl,hw⟩,hq⟩:=hp;have hm:=cV (nu:=nu) (o:=o) (w:=w) id;obtain ⟨k1,k2,k3,k4⟩:=qc l hg hq (kY h id);refine ⟨hm.trans k1,k2,by simp [k3],fun i c b x q1 q2 hr=> ?_⟩
     cases i with
     | zero=>
      simp at q1 q2;subst q1;subst q2;cases hr;exact (lx h ho hv).mono k1 (fun _ _ h=>h)
     | succ i=>exact k4 i c b x (by simpa using q1) (by simpa using q2) (hr.mono hm (fun _ _ h=>h))
   ·cases he
  | _=>exact plain he
theorem ab.EV {f:FuncId} {args args':List AV} {o':List (Option aa)} {r:AV} {p:Prop} {K:AV->List (Option aa)->Prop} (h:ar P f args' r) (hz:oM o args=some (p,args',o')) (hp:p) (k:K r o'):ab P f args o K:=by
 refine .inr (.inr ⟨h.2.1,fun D nu w vargs hro hra=> ?_⟩);obtain ⟨k1,k2,k3,k4⟩:=qc args hz hp hro
 refine (nM h k2 ⟨by rw [<-k3];exact hra.len,fun i c x q1 q2=> ?_⟩).mono ?_
 ·have hi:i<args.length:=by rw [k3];exact (Uy.1 q1).1
  exact k4 i _ c x (UM hi) q1 (hra.at' i _ x (UM hi) q2)
 ·rintro e w' ⟨v,rfl,hb,hr⟩;exact ⟨v,nu,o',r,rfl,k1.trans (au hb),k2.below hb,hr,k⟩
theorem gT {s:AS} (i id:Nat) {len:Nat} {ob:aa} (hi:s.t[i]? = some (.vec id len)) (ho:s.o[id]? = some (some ob)) (hv:ob.fY=true) (hl:ob.rows.length=len):yq s (AS.mk (s.t.set i (.aC ob.z ob.rows len)) (s.o.set id none) s.y):=by
 intro f D nu a w hs;have hm:=cV (nu:=nu) (o:=s.o) (w:=w) id;refine ⟨nu,hm,rfl,kY hs.ro id,⟨by simpa using hs.tm.len,fun j c x h1 h2=> ?_⟩,hs.js⟩
 by_cases hij:i=j
 ·subst hij;rw [List.getElem?_set_self (Uy.1 hi).1] at h1;cases h1;have hr:=hs.tm.at' i _ x hi h2;subst hl;cases hr;exact lx hs.ro ho hv
 ·rw [List.getElem?_set_ne hij] at h1;exact (hs.tm.at' j c x h1 h2).mono hm (fun _ _ h=>h)
theorem bF {n0 i:Nat} {ops:Array Oper} {d:Bool} {s:AS} {Q:aY->AS->Prop} (h:cj P n0 (.region i ops d) s Q):cj P n0 (.region i ops d) s Q:=h
theorem Ec {all tail rest:List Oper} {d:Tmp} {T ty:TypeId} {pos:String} {aft:Array Edge} {k:Nat} {s:AS} {ms:List gY} {ds:List Tmp} {Q:AS->Prop} (h:Ke none (some d) s.t.length (wC P T) (fun d e z l zc=>fl P all tail rest (k+1) (s.put (some d) .undef s.o) (ms++[⟨d,k,e,z,l,zc,true⟩]) ds Q)):fl P all tail (⟨some d, .alloc T,ty,pos,aft,none⟩ :: rest) k s ms ds Q:=h
theorem Ed {all tail rest:List Oper} {d:Tmp} {T ty:TypeId} {n c:Operand} {pos:String} {aft:Array Edge} {k:Nat} {s:AS} {ms:List gY} {ds:List Tmp} {Q:AS->Prop} (h:Ke none (some d) s.t.length (wN P T (s.ev n) (s.ev c)) (fun d e z l zc=>fl P all tail rest (k+1) (s.put (some d) .undef s.o) (ms++[⟨d,k,e,z,l,zc,false⟩]) ds Q)):fl P all tail (⟨some d, .makeSlice T n c,ty,pos,aft,none⟩ :: rest) k s ms ds Q:=h
theorem Bb {all tail:List Oper} {k:Nat} {s:AS} {ms:List gY} {ds:List Tmp} {Q:AS->Prop} (h:dM P all tail (xG ⟨G4 ds s.t,s.o,s.y⟩ ms) Q):fl P all tail [] k s ms ds Q:=h
instance {all tail:List Oper} {k:Nat} {s:AS} {ms:List gY} {ds:List Tmp} {Q:AS->Prop}:aA (fl P all tail [] k s ms ds Q) (dM P all tail (xG ⟨G4 ds s.t,s.o,s.y⟩ ms) Q):=⟨Bb⟩
instance {all tail rest:List Oper} {d:Tmp} {T ty:TypeId} {n c:Operand} {pos:String} {aft:Array Edge} {k:Nat} {s:AS} {ms:List gY} {ds:List Tmp} {Q:AS->Prop}:aA (fl P all tail (⟨some d, .makeSlice T n c,ty,pos,aft,none⟩ :: rest) k s ms ds Q)
 (Ke none (some d) s.t.length (wN P T (s.ev n) (s.ev c)) (fun d e z l zc=>fl P all tail rest (k+1) (s.put (some d) .undef s.o) (ms++[⟨d,k,e,z,l,zc,false⟩]) ds Q)):=⟨Ed⟩
instance {all tail rest:List Oper} {d:Tmp} {T ty:TypeId} {pos:String} {aft:Array Edge} {k:Nat} {s:AS} {ms:List gY} {ds:List Tmp} {Q:AS->Prop}:aA (fl P all tail (⟨some d, .alloc T,ty,pos,aft,none⟩ :: rest) k s ms ds Q)
 (Ke none (some d) s.t.length (wC P T) (fun d e z l zc=>fl P all tail rest (k+1) (s.put (some d) .undef s.o) (ms++[⟨d,k,e,z,l,zc,true⟩]) ds Q)):=⟨Ec⟩
end
attribute [go_sem] Gi wC gY.av wN xG Sf G4 AV.PN AV.flat gY.ob Option.toList_some Option.toList_none
end
section
section
variable {D:Nat->Prop} {nu:Nat->Nat->Value} {o:List (Option aa)} {w:World} {P:Program}
def bK (o:List (Option aa)) (a r:AV):Prop:= ∀(D:Nat->Prop) (nu:Nat->Nat->Value) (w:World) (x:Value),RO D nu o w->RA D nu o w a x->RA D nu [] w r x
def AU (o:List (Option aa)):List AV->List AV->Prop
 | [],[]=>True
 | a :: l,b :: m=>bK o a b∧AU o l m
 | _,_=>False
theorem bK.of {a r:AV} (n:Nat) {p:Prop} (hz:gC o n a=some (p,r)) (hp:p):bK o a r:=fun _ _ _ x hro hra=>(ky hro n).1 a x p r hz hp hra
theorem AU.at': ∀ {l m:List AV},AU o l m->l.length=m.length∧ ∀(i:Nat) a b,l[i]? = some a->m[i]? = some b->bK o a b
 | [],[],_=>⟨rfl,fun i a b h=>by simp at h⟩
 | a :: l,b :: m,h=>by
  obtain ⟨h1,h2⟩:=AU.at' h.2;refine ⟨by simp [h1],fun i x y k1 k2=> ?_⟩
  cases i with
  | zero=>simp at k1 k2;subst k1;subst k2;exact h.1
  | succ i=>exact h2 i x y (by simpa using k1) (by simpa using k2)
def kf (P:Program) (f:FuncId) (args:List AV) (r:AV):Prop:=(aV 0 args=true∧r.wf 0=true)∧eh P f=true∧ ∀D nu w vargs,RO D nu [] w->fM D nu [] w args vargs->Calls P f vargs w (fun e w'=> ∃v,e = .returned v∧Below w.heap.size w w'∧RA (fun b=>w.heap.size<=b) nu [] w' r v)
theorem kf.OF {f:FuncId} {args:List AV} {r:AV} (h:kf P f args r):ar P f args r:=by
 refine ⟨h.1,h.2.1,fun D nu w vargs hro hra=>(h.2.2 D nu w vargs hro hra).mono ?_⟩;rintro e w' ⟨v,rfl,hb,hx⟩;exact ⟨v,nu,[],r,rfl,au hb,hro.below hb,hx.wider (fun b hb=>hro.up b hb),rfl,rfl⟩
def oH (o:List (Option aa)) (r0 r:AV):Prop:= ∀(D:Nat->Prop) (nu:Nat->Nat->Value) (w:World) (x:Value),RO D nu o w->RA D nu o w r0 x->RA (owned nu o) nu [] w r x
theorem oH.vec {id len:Nat} {ob:aa} (ho:o[id]? = some (some ob)) (hv:ob.fY=true) (hl:ob.rows.length=len) (hp: ∀row,row∈ob.rows-> ∀c,c∈row-> ∃x,c = .v x):oH o (.vec id len) (.aC ob.z ob.rows len):=fun D nu w x hro hra=>by
 have hx:x=nu id len:=by
  cases hra with
  | vec=>rfl
 subst hx;subst hl;have hown: ∀b,cd (nu id ob.rows.length)=some b->owned nu o b:=fun b hb=>⟨id,ob,ho,by rw [aa.hl,hv,if_pos rfl];exact C8 hb⟩;have h:=lx hro ho hv;generalize hq:nu id ob.rows.length=q at h hown ⊢;generalize ob.rows.length=n at h ⊢;generalize ob.rows=rows at h hp ⊢
 cases h with
 | bp=>exact .bp _
 | bD _ a=>exact .bD _ a
 | aC _ _ _ b off cap f k1 k2 k3 k4 k5 k6 k7 k8=>
  refine .aC _ _ _ b off cap f k1 k2 k3 (fun hne=>⟨(k4 hne).1,bd _ _,hown b rfl⟩) k5 k6 (fun i j row c q1 q2=> ?_) k8;obtain ⟨y,rfl⟩:=hp row (U7 q1) c (U7 q2);rw [(k7 i j row _ q1 q2).cU];exact .v y
theorem vM {α:Type} (f:α->List AV) (h: ∀x, ∀c∈f x, ∃y,c = .v y) (l:List α): ∀row,row∈l.map f-> ∀c,c∈row-> ∃y,c = .v y:=fun row hr=>by
 obtain ⟨x,_,rfl⟩:=List.mem_map.1 hr;exact h x
theorem kf.enter {f:FuncId} {fn:Func} {c:Code} {args:List AV} {r:AV} (hf:P.funcs[f]? = some fn) (hb:fn.body=some c) (hc:eh P f=true) (hok:bR c=true) (hmx:P.follows .mixedOrders=true)
  (ha:aV 0 args=true) (hr:r.wf 0=true) (h:cj P 0 c ⟨args++List.replicate (fn.ntmps - args.length) .undef,[], .no⟩ (wi P fn.results.toList (fun r0 o=>oH o r0 r))):kf P f args r:=by
 obtain ⟨_,h2⟩:=gx.enter (o:=[]) hf hb hc hok hmx h;refine ⟨⟨ha,hr⟩,hc,fun D nu w vargs hro hra=>(h2 D nu w vargs hro hra).mono ?_⟩;rintro e w' ⟨v,nu',o',r0,rfl,hm,hro',hra',hz⟩;refine ⟨v,rfl,⟨hm.os,hm.tape,hm.output,hm.size,fun b hb=>(hm.keep b hb (bd _ _)).1⟩,(hz _ _ _ _ hro' hra').tr (n:=0) (fun b hf=>⟨hf.1,bd _ _, ?_⟩) (fun id len hlt=>by omega) hr⟩
 rcases Nat.lt_or_ge b w.heap.size with q|q
 ·exact absurd hf.2.2 (hm.keep b q (bd _ _)).2
 ·exact q
def Tg {α:Type} (enc:α->Value) (l:List α):List (List AV):=l.map (fun a=>[.v (enc a)])
def R1 (f:Nat->Nat) (n:Nat):List AV->List AV->Prop
 | [],[]=>True
 | a :: l,c :: m=>(c = .undef∨(a=c.bb f∧c.wf n=true))∧R1 f n l m
 | _,_=>False
end
def T9 (q:D8) (i:Nat):List (List AV):=((q.conds.drop i).flatMap (fun c=>[c.left,c.right])++q.ret).map (fun o=>[.agg (Hd o)])
def Qk (l:List (ByteArray×Int)):List (List AV):=l.map (fun p=>[.v (.string p.1), .v (.int .i64 p.2)])
theorem s5 (c:Int):ar Tryz.prog 132 [.v (.int .u8 c)] (.v (.bool (lS c))):=by
 unfold lS;refine gE Tryz.func132 Tryz.ntmps132 Tryz.results132 ?_
 (refine bq ?_;intro K hK K hK)
 refine bH.part (fun h=> ?_) (fun h=> ?_)
 ·(revert K;revert K;exact ML h)
 ·(revert K;revert K;exact ML h)
theorem Ju (c:Int):ar Tryz.prog 149 [.v (.int .u8 c)] (.v (.bool (fb c))):=by
 have L:=s5 c;refine gE Tryz.func149 Tryz.ntmps149 Tryz.results149 ?_
 (refine bq ?_;intro K hK K hK)
 refine ab.one L ?_
 (revert K;revert K;refine bq ?_;intro K hK K hK)
 refine bH.part (fun h=> ?_) (fun h=> ?_)
 ·(revert K;revert K;refine lE h ?_)
  rw [fb,h];rfl
 ·(revert K;revert K;refine lE h ?_;intro K hK K hK)
  refine bH.part (fun h2=> ?_) (fun h2=> ?_)
  ·(revert K;revert K;refine MI h h2 ?_;intro K hK K hK)
   refine bH.part (fun h3=> ?_) (fun h3=> ?_)
   ·(revert K;revert K;refine MJ h h2 h3 ?_)
    rw [fb,h,h2,h3];simp
   ·(revert K;revert K;refine MJ h h2 h3 ?_)
    rw [fb,h,h2,h3];simp
  ·(revert K;revert K;refine MI h h2 ?_)
   rw [fb,h,h2];simp
theorem ud (s:ByteArray) (k:Nat) (h:k<s.size):uc s k=s[k].toNat:=by
 unfold uc;rw [List.getD_eq_getElem?_getD,List.getElem?_eq_getElem (by simpa using h)];simp [ByteArray.getElem_eq_getElem_data]
theorem Cj (s:ByteArray) (hs:s.size<=1000000000000000):ar Tryz.prog 131 [.v (.string s)] (.v (.bool (iy s))):=by
 refine gE Tryz.func131 Tryz.ntmps131 Tryz.results131 ?_
 (refine aw ?_;intro K hK)
 refine cq (ι:=Nat) (fun i=>[(0, .v (.string s)),(2, .v (.bool false)),(3, .v (.int .i64 i))]) (fun _=>[]) (fun i=>s.size - i) (fun i=>i<=s.size∧ ∀j (h:j<s.size),j<i->fb s[j].toNat=true) 0 ⟨by omega,fun j _ h=>absurd h (by omega)⟩ ?_ ?_
 ·refine bo ?_ aj
  rfl
 ·rintro i ⟨hi,hP⟩ K hK;simp only [gq,List.foldl_cons,List.foldl_nil,List.replicate_succ,List.replicate_zero,go_sem]
  (revert K;revert K;refine aw ?_;intro K hK K hK K hK)
  refine bH.part (fun h=> ?_) (fun h=> ?_)
  ·have hlt:i<s.size:=by replace h:=bI h;omega
   have eW:=ak (k:=i) (by omega);have S:=Ju (uc s i)
   repeat (first|(with_reducible first|refine aA.up ?_|refine fun (K:AK) hK=> ?_|(refine hK _ ?_;clear hK K))|simp only [go_sem]|with_reducible refine wA ?_|clear hK K)
   refine ab.one S ?_
   ((iterate 5 revert K);refine aw ?_;intro K hK K hK K hK)
   refine bH.part (fun h2=> ?_) (fun h2=> ?_)
   ·((iterate 3 revert K);refine aM eW ?_)
    exact az.mk (i+1) ⟨by omega,fun j hj h3=>(by
     rcases Nat.lt_or_ge j i with q|q
     ·exact hP j hj q
     ·obtain rfl:j=i:=by omega
      rw [<-ud s j hj];exact h2)⟩ (by omega) (by exact aR aj)
   ·((iterate 3 revert K);refine aM h2 ?_)
    have e:iy s=false:=by
     rw [<-Bool.not_eq_true,iy,Bool.and_eq_true,Bool.and_eq_true,iO];intro hh
     have:=hh.1.1 i hlt
     rw [<-ud s i hlt,h2] at this;cases this
    rw [e]
  ·have he:i=s.size:=by replace h:=bI h;omega
   have ea:s.data.toList.all (fun b=>fb b.toNat)=true:=(iO _ _).2 (fun j hj=>hP j hj (by omega))
   ((iterate 3 revert K);refine aw ?_;intro K hK K hK)
   refine bH.part (fun h3=> ?_) (fun h3=> ?_)
   ·(revert K;revert K;refine aM h3 ?_)
    have h4:1<=s.size:=by replace h3:=bI h3;omega
    rw [iy,ea,decide_eq_true h4];simp;omega
   ·(revert K;revert K;refine vd h3 ?_)
    rw [iy,ea]
    replace h3:=bI h3
    simp;omega
theorem gH {s w:ByteArray} (hw:w∈words) (h:(s.toList==w.toList)=true):c8 s=false:=by
 have e:words.any (fun x=>cw s x)=true:=List.any_eq_true.2 ⟨w,hw,h⟩;rw [c8,e];simp
theorem Hm (s:ByteArray) (hs:s.size<=1000000000000000):ar Tryz.prog 99 [.v (.string s)] (.v (.bool (c8 s))):=by
 have V:=Cj s hs;refine gE Tryz.func99 Tryz.ntmps99 Tryz.results99 ?_
 (refine aw ?_;intro K hK K hK K hK)
 refine ab.one V ?_
 ((iterate 3 revert K);refine aw ?_;intro K hK K hK K hK)
 cases hv:iy s with
 | false=>
  ((iterate 3 revert K);refine vd hv ?_)
  rw [c8,hv];rfl
 | true=>
  have hz:=ui hv;have L:=s5 (uc s 0)
  have e0:nV s=(uc s 0:Nat):=by rw [ud s 0 hz.1];simp [nV,hz.1]
  repeat (first|(with_reducible first|refine aA.up ?_|refine fun (K:AK) hK=> ?_|(refine hK _ ?_;clear hK K))|simp only [go_sem,hv]|with_reducible refine wA ?_|clear hK K)
  refine ab.one L ?_
  ((iterate 3 revert K);refine aM hv ?_;intro K hK)
  refine bH.part (fun h1=> ?_) (fun h1=> ?_)
  ·(revert K;refine aM h1 ?_;intro K hK K hK)
   refine bH.part (fun w1=> ?_) (fun w1=> ?_)
   ·(revert K;revert K;refine aM w1 ?_)
    rw [gH (.head _) w1]
   ·(revert K;revert K;refine aM w1 ?_;intro K hK K hK)
    refine bH.part (fun w2=> ?_) (fun w2=> ?_)
    ·(revert K;revert K;refine aM w2 ?_)
     rw [gH (.tail _ (.head _)) w2]
    ·(revert K;revert K;refine aM w2 ?_;intro K hK K hK)
     refine bH.part (fun w3=> ?_) (fun w3=> ?_)
     ·(revert K;revert K;refine aM w3 ?_)
      rw [gH (.tail _ (.tail _ (.head _))) w3]
     ·(revert K;revert K;refine aM w3 ?_;intro K hK K hK)
      refine bH.part (fun w4=> ?_) (fun w4=> ?_)
      ·(revert K;revert K;refine aM w4 ?_)
       rw [gH (.tail _ (.tail _ (.tail _ (.head _)))) w4]
      ·(revert K;revert K;refine aM w4 ?_;intro K hK K hK)
       refine bH.part (fun w5=> ?_) (fun w5=> ?_)
       ·(revert K;revert K;refine aM w5 ?_)
        rw [gH (.tail _ (.tail _ (.tail _ (.tail _ (.head _))))) w5]
       ·(revert K;revert K;refine aM w5 ?_;intro K hK K hK)
        refine bH.part (fun w6=> ?_) (fun w6=> ?_)
        ·(revert K;revert K;refine aM w6 ?_)
         rw [gH (.tail _ (.tail _ (.tail _ (.tail _ (.tail _ (.head _)))))) w6]
        ·(revert K;revert K;refine aM w6 ?_;intro K hK)
         refine bH.part (fun w7=> ?_) (fun w7=> ?_)
         ·(revert K;refine aM w7 ?_)
          rw [gH (.tail _ (.tail _ (.tail _ (.tail _ (.tail _ (.tail _ (.head _))))))) w7]
         ·(revert K;refine aM w7 ?_)
          rw [c8,hv,e0,h1];simp only [words,List.any_cons,List.any_nil,cw,w1,w2,w3,w4,w5,w6,w7]
          rfl
  ·(revert K;refine aM h1 ?_)
   rw [c8,hv,e0,h1];rfl
end
end Go.Proofs.YtfflpdekojlnmaaGreatDoor
