/- texts of one claim, one behind the other. -/
import Derived.KernelRfl
import Derived.Test.YtfflpdekojlnmaaGreatDoorProg
import Derived.Test.YtfflpdekojlnmaaGreatDoorXAbsJ
import Derived.Test.YtfflpdekojlnmaaGreatDoorXFen
import Derived.Test.YtfflpdekojlnmaaGreatDoorXAbsV
import Derived.StillTailTactics
import Derived.Test.YtfflpdekojlnmaaGreatDoorXOpenX
import Derived.Test.YtfflpdekojlnmaaGreatDoorXLang
import Derived.Sort.Grow
import Derived.Shelf.Sort.Plain
import Derived.Shelf.Slices.CompactI
import Derived.Shelf.Slices.In.SortNone
import Derived.Shelf.Spec.SlicesGrow
set_option linter.unusedSimpArgs false
set_option linter.unusedVariables false
set_option maxRecDepth 100000
set_option maxHeartbeats 16000000
open Array renaming replicate_succ -> VF, replicate_zero -> VG, getElem?_eq_some_iff -> Ua
open List renaming size_toArray -> UA, length_cons -> Uh, length_nil -> Ub, push_toArray -> VH, append_toArray -> VI, nil_append -> VJ, cons_append -> VK, getElem?_toArray -> Us, getElem?_cons_succ -> VB, getElem?_cons_zero -> Ve, zip_cons_cons -> VL, zip_nil_left -> VM, foldl_cons -> VN, foldl_nil -> VO, setIfInBounds_toArray -> VP, set_cons_succ -> VQ, set_cons_zero -> VR, getElem?_eq_some_iff -> Uc, getElem?_set_self -> Uy, getElem?_set_ne -> Ux, getElem?_append_right -> UF, getElem?_map -> Ut, mem_of_getElem? -> UK, getElem?_eq_getElem -> Uq, length_append -> Ug, eq_nil_of_length_eq_zero -> UM, getElem_mem -> Vx, flatMap_cons -> VS, mem_cons -> Vt
open Nat renaming le_trans -> T8, le_refl -> T7, lt_or_ge -> Ue
open Option.some renaming injEq -> Um
open Prod.mk renaming injEq -> Un
namespace Go.Proofs.YtfflpdekojlnmaaGreatDoor
open Go.RowKit
section
@[go_sem] theorem TT:Tryz.prog.underlying 3=some (.int .i64):=by kernel_rfl
@[go_sem] theorem SX:eo Tryz.prog 3=some (false):=by kernel_rfl
@[go_sem] theorem Sk:cg Tryz.prog 3=some (1):=by kernel_rfl
@[go_sem] theorem Sq:dR Tryz.prog 3=some ([.v (.int .i64 0)]):=by kernel_rfl
@[go_sem] theorem Rz:ym Tryz.prog 3=some (.v (.int .i64 0)):=by kernel_rfl
@[go_sem] theorem TU:Tryz.prog.underlying 4=some (.bool):=by kernel_rfl
@[go_sem] theorem SY:eo Tryz.prog 4=some (false):=by kernel_rfl
@[go_sem] theorem Sl:cg Tryz.prog 4=some (1):=by kernel_rfl
@[go_sem] theorem Sr:dR Tryz.prog 4=some ([.v (.bool false)]):=by kernel_rfl
@[go_sem] theorem TV:Tryz.prog.underlying 5=some (.int .u8):=by kernel_rfl
@[go_sem] theorem SZ:eo Tryz.prog 5=some (false):=by kernel_rfl
@[go_sem] theorem Sm:cg Tryz.prog 5=some (1):=by kernel_rfl
@[go_sem] theorem Ss:dR Tryz.prog 5=some ([.v (.int .u8 0)]):=by kernel_rfl
@[go_sem] theorem TW:Tryz.prog.underlying 9=some (.string):=by kernel_rfl
@[go_sem] theorem S0:eo Tryz.prog 9=some (false):=by kernel_rfl
@[go_sem] theorem Sn:cg Tryz.prog 9=some (1):=by kernel_rfl
@[go_sem] theorem Su:dR Tryz.prog 9=some ([.v (.string ⟨#[]⟩)]):=by kernel_rfl
@[go_sem] theorem RY:eo Tryz.prog 22=some (false):=by kernel_rfl
@[go_sem] theorem Q1:cg Tryz.prog 22=some (1):=by kernel_rfl
@[go_sem] theorem Tc:Tryz.prog.underlying 23=some (.slice 25):=by kernel_rfl
@[go_sem] theorem RZ:eo Tryz.prog 23=some (false):=by kernel_rfl
@[go_sem] theorem Q2:cg Tryz.prog 23=some (1):=by kernel_rfl
@[go_sem] theorem Sb:kz Tryz.prog 23=some (25,3,48):=by kernel_rfl
@[go_sem] theorem R0:eo Tryz.prog 25=some (true):=by kernel_rfl
@[go_sem] theorem Q3:cg Tryz.prog 25=some (3):=by kernel_rfl
@[go_sem] theorem Rf:dR Tryz.prog 25=some ([.v (.int .i64 0), .v (.string ⟨#[]⟩), .v (.slice none 0 0)]):=by kernel_rfl
@[go_sem] theorem P4:iC Tryz.prog 25 0=some (0):=by kernel_rfl
@[go_sem] theorem P5:iC Tryz.prog 25 1=some (1):=by kernel_rfl
@[go_sem] theorem P6:iC Tryz.prog 25 2=some (2):=by kernel_rfl
@[go_sem] theorem S4:Ji Tryz.prog 25=some ([(0,1),(1,1),(2,1)],[.v (.int .i64 0), .v (.string ⟨#[]⟩), .v (.slice none 0 0)]):=by kernel_rfl
@[go_sem] theorem Te:Tryz.prog.underlying 26=some (.slice 9):=by kernel_rfl
@[go_sem] theorem R1:eo Tryz.prog 26=some (false):=by kernel_rfl
@[go_sem] theorem Q4:cg Tryz.prog 26=some (1):=by kernel_rfl
@[go_sem] theorem S9:Ql Tryz.prog 26=some (1):=by kernel_rfl
@[go_sem] theorem Sc:kz Tryz.prog 26=some (9,1,16):=by kernel_rfl
@[go_sem] theorem Tf:Tryz.prog.underlying 29=some (.pointer 73):=by kernel_rfl
@[go_sem] theorem Tg:Tryz.prog.underlying 54=some (.slice 4):=by kernel_rfl
@[go_sem] theorem R2:eo Tryz.prog 54=some (false):=by kernel_rfl
@[go_sem] theorem Q5:cg Tryz.prog 54=some (1):=by kernel_rfl
@[go_sem] theorem Rg:dR Tryz.prog 54=some ([.v (.slice none 0 0)]):=by kernel_rfl
@[go_sem] theorem Sd:kz Tryz.prog 54=some (4,1,1):=by kernel_rfl
@[go_sem] theorem Th:Tryz.prog.underlying 61=some (.pointer 99):=by kernel_rfl
@[go_sem] theorem R3:eo Tryz.prog 61=some (false):=by kernel_rfl
@[go_sem] theorem Q6:cg Tryz.prog 61=some (1):=by kernel_rfl
@[go_sem] theorem R4:eo Tryz.prog 65=some (false):=by kernel_rfl
@[go_sem] theorem Q7:cg Tryz.prog 65=some (1):=by kernel_rfl
@[go_sem] theorem Ti:Tryz.prog.underlying 68=some (.slice 84):=by kernel_rfl
@[go_sem] theorem R5:eo Tryz.prog 68=some (false):=by kernel_rfl
@[go_sem] theorem Q8:cg Tryz.prog 68=some (1):=by kernel_rfl
@[go_sem] theorem Se:kz Tryz.prog 68=some (84,1,8):=by kernel_rfl
@[go_sem] theorem R6:eo Tryz.prog 70=some (true):=by kernel_rfl
@[go_sem] theorem Q9:cg Tryz.prog 70=some (2):=by kernel_rfl
@[go_sem] theorem Rh:dR Tryz.prog 70=some ([.v (.slice none 0 0), .v (.slice none 0 0)]):=by kernel_rfl
@[go_sem] theorem P7:iC Tryz.prog 70 0=some (0):=by kernel_rfl
@[go_sem] theorem P8:iC Tryz.prog 70 1=some (1):=by kernel_rfl
@[go_sem] theorem S5:Ji Tryz.prog 70=some ([(0,1),(1,1)],[.v (.slice none 0 0), .v (.slice none 0 0)]):=by kernel_rfl
@[go_sem] theorem P9:iC Tryz.prog 73 0=some (0):=by kernel_rfl
@[go_sem] theorem S6:Ji Tryz.prog 73=some ([(0,2),(2,1)],[.v (.slice none 0 0), .v (.slice none 0 0), .v (.slice none 0 0)]):=by kernel_rfl
@[go_sem] theorem Tj:Tryz.prog.underlying 74=some (.slice 79):=by kernel_rfl
@[go_sem] theorem R7:eo Tryz.prog 74=some (false):=by kernel_rfl
@[go_sem] theorem Ra:cg Tryz.prog 74=some (1):=by kernel_rfl
@[go_sem] theorem Sf:kz Tryz.prog 74=some (79,1,24):=by kernel_rfl
@[go_sem] theorem Qa:iC Tryz.prog 76 0=some (0):=by kernel_rfl
@[go_sem] theorem Qb:iC Tryz.prog 76 1=some (1):=by kernel_rfl
@[go_sem] theorem Qc:iC Tryz.prog 76 2=some (2):=by kernel_rfl
@[go_sem] theorem S7:Ji Tryz.prog 76=some ([(0,1),(1,1),(2,1)],[.v (.slice none 0 0), .v (.slice none 0 0), .v (.slice none 0 0)]):=by kernel_rfl
@[go_sem] theorem Tl:Tryz.prog.underlying 79=some (.slice 3):=by kernel_rfl
@[go_sem] theorem R8:eo Tryz.prog 79=some (false):=by kernel_rfl
@[go_sem] theorem Rb:cg Tryz.prog 79=some (1):=by kernel_rfl
@[go_sem] theorem Rj:dR Tryz.prog 79=some ([.v (.slice none 0 0)]):=by kernel_rfl
@[go_sem] theorem Sg:kz Tryz.prog 79=some (3,1,8):=by kernel_rfl
@[go_sem] theorem Tm:Tryz.prog.underlying 83=some (.map 9 3):=by kernel_rfl
@[go_sem] theorem Tn:Tryz.prog.underlying 84=some (.map 9 3):=by kernel_rfl
@[go_sem] theorem R9:eo Tryz.prog 84=some (false):=by kernel_rfl
@[go_sem] theorem Rc:cg Tryz.prog 84=some (1):=by kernel_rfl
@[go_sem] theorem Rk:dR Tryz.prog 84=some ([.v (.map none)]):=by kernel_rfl
@[go_sem] theorem Sa:eo Tryz.prog 96=some (false):=by kernel_rfl
@[go_sem] theorem Re:cg Tryz.prog 96=some (1):=by kernel_rfl
@[go_sem] theorem Rl:dR Tryz.prog 96=some ([.v (.int .u32 0)]):=by kernel_rfl
@[go_sem] theorem To:Tryz.prog.underlying 97=some (.array 25 96):=by kernel_rfl
@[go_sem] theorem Qd:iC Tryz.prog 99 0=some (0):=by kernel_rfl
@[go_sem] theorem Qe:iC Tryz.prog 99 1=some (1):=by kernel_rfl
@[go_sem] theorem Qf:iC Tryz.prog 99 2=some (26):=by kernel_rfl
@[go_sem] theorem Qg:iC Tryz.prog 99 3=some (27):=by kernel_rfl
@[go_sem] theorem S8:Ji Tryz.prog 99=some ([(0,1),(1,25),(26,1),(27,1)],[.v (.slice none 0 0), .v (.int .u32 0), .v (.int .u32 0), .v (.int .u32 0), .v (.int .u32 0), .v (.int .u32 0), .v (.int .u32 0), .v (.int .u32 0), .v (.int .u32 0), .v (.int .u32 0), .v (.int .u32 0), .v (.int .u32 0), .v (.int .u32 0), .v (.int .u32 0), .v (.int .u32 0), .v (.int .u32 0), .v (.int .u32 0), .v (.int .u32 0), .v (.int .u32 0), .v (.int .u32 0), .v (.int .u32 0), .v (.int .u32 0), .v (.int .u32 0), .v (.int .u32 0), .v (.int .u32 0), .v (.int .u32 0), .v (.int .u32 0), .v (.bool false)]):=by kernel_rfl
@[go_sem] theorem QT:eo Tryz.prog 101=some (true):=by kernel_rfl
@[go_sem] theorem Qh:cg Tryz.prog 101=some (2):=by kernel_rfl
@[go_sem] theorem Qm:dR Tryz.prog 101=some ([.v (.int .u32 0), .v (.int .u32 0)]):=by kernel_rfl
@[go_sem] theorem OB:iC Tryz.prog 101 0=some (0):=by kernel_rfl
@[go_sem] theorem OC:iC Tryz.prog 101 1=some (1):=by kernel_rfl
@[go_sem] theorem Sh:Ji Tryz.prog 101=some ([(0,1),(1,1)],[.v (.int .u32 0), .v (.int .u32 0)]):=by kernel_rfl
@[go_sem] theorem Sy:Tryz.prog.underlying 108=some (.map 3 3):=by kernel_rfl
@[go_sem] theorem QU:eo Tryz.prog 108=some (false):=by kernel_rfl
@[go_sem] theorem Qi:cg Tryz.prog 108=some (1):=by kernel_rfl
@[go_sem] theorem Qn:dR Tryz.prog 108=some ([.v (.map none)]):=by kernel_rfl
@[go_sem] theorem Sz:Tryz.prog.underlying 118=some (.slice 54):=by kernel_rfl
@[go_sem] theorem QV:eo Tryz.prog 118=some (false):=by kernel_rfl
@[go_sem] theorem Qj:cg Tryz.prog 118=some (1):=by kernel_rfl
@[go_sem] theorem QY:kz Tryz.prog 118=some (54,1,24):=by kernel_rfl
@[go_sem] theorem OD:iC Tryz.prog 120 0=some (0):=by kernel_rfl
@[go_sem] theorem OE:iC Tryz.prog 120 1=some (1):=by kernel_rfl
@[go_sem] theorem OF:iC Tryz.prog 120 2=some (2):=by kernel_rfl
@[go_sem] theorem OG:iC Tryz.prog 120 3=some (3):=by kernel_rfl
@[go_sem] theorem OH:iC Tryz.prog 120 4=some (4):=by kernel_rfl
@[go_sem] theorem Si:Ji Tryz.prog 120=some ([(0,1),(1,1),(2,1),(3,1),(4,1),(5,3)],[.v (.slice none 0 0), .v (.slice none 0 0), .v (.slice none 0 0), .v (.slice none 0 0), .v (.bool false), .v (.int .i64 0), .v (.string ⟨#[]⟩), .v (.slice none 0 0)]):=by kernel_rfl
@[go_sem] theorem SC:Tryz.prog.underlying 122=some (.slice 5):=by kernel_rfl
@[go_sem] theorem QZ:kz Tryz.prog 122=some (5,1,1):=by kernel_rfl
@[go_sem] theorem QX:eo Tryz.prog 152=some (true):=by kernel_rfl
@[go_sem] theorem Qk:cg Tryz.prog 152=some (3):=by kernel_rfl
@[go_sem] theorem Qo:dR Tryz.prog 152=some ([.v (.slice none 0 0), .v (.slice none 0 0), .v (.bool false)]):=by kernel_rfl
@[go_sem] theorem OI:iC Tryz.prog 152 0=some (0):=by kernel_rfl
@[go_sem] theorem OJ:iC Tryz.prog 152 1=some (1):=by kernel_rfl
@[go_sem] theorem OK:iC Tryz.prog 152 2=some (2):=by kernel_rfl
@[go_sem] theorem Sj:Ji Tryz.prog 152=some ([(0,1),(1,1),(2,1)],[.v (.slice none 0 0), .v (.slice none 0 0), .v (.bool false)]):=by kernel_rfl
@[go_sem] theorem SD:Tryz.prog.underlying 181=some (.slice 152):=by kernel_rfl
@[go_sem] theorem Q0:kz Tryz.prog 181=some (152,3,56):=by kernel_rfl
@[go_sem] theorem SE:Tryz.prog.underlying 203=some (.array 32 5):=by kernel_rfl
open Go.RowKit Go.Shelf
attribute [local go_sem] Oper.semAt_some
def Tw (J Jx:List XC->World->Prop) (Kp:World->World->Prop) (pre:List XC) (xs:List Ex) (W:World) (e:Ending) (W':World):Prop:=
 (e = .returned (.bool true)∧(∃L,L.map XC.sig=xs.map Ex.sig∧J (pre++L) W')∧Kp W W') ∨
 (e = .returned (.bool false)∧ ∃q,q.map XC.sig <+: xs.map Ex.sig∧Jx (pre++q) W')
def WalkC (F:Fence) (l N lo hi:Nat) (et:TypeId) (J Jx:List XC->World->Prop) (w0:World) (x:Ex):Prop:=
 ∀(n:Nat) (cx:List Value) (pre:List XC) (W:World),eu w0 x cx->x.ok->Cells w0 W->hi<=W.heap.size->J pre W->pre.length+(ai x).length<=N ->
  CallsIn F n Tryz.prog 75 #[.agg cx.toArray, .func (.yield l) #[] #[]] W (Tw J Jx (Kept lo hi et) pre (ai x) W)
theorem FE (F:Fence) (hF: ∀f,F.fn f) (hd:F.depth=none) (hro:F.round=none) (l N lo hi:Nat) (et:TypeId) (het:25≠et) (J Jx:List XC->World->Prop) (w0:World) (hlo:w0.heap.size<=lo)
  (hJ: ∀pre W o,J pre W->J pre (W.alloc o))
  (hY: ∀m pre (c:XC) W,J pre W->pre.length<N->YieldAt F m Tryz.prog l #[c.val] W (Tx J Jx (Kept lo hi et) pre c W)) (x:Ex):WalkC F l N lo hi et J Jx w0 x:=by
 induction x using Ex.ind with
 | h k s kids ih=>
  intro n cx pre W hx hok hb hhi hj hN;rw [eu] at hx;obtain ⟨sv,rfl,hr⟩:=hx;obtain ⟨p,c,rfl,hc1,hc2⟩:=hr.shape;rw [Ex.ok] at hok;obtain ⟨hs,hoks⟩:=hok
  replace hs:=hs.len
  rw [ai] at hN ⊢
  have hdd: ∀k:Nat,(F.depth.isSome=true->1<=k):=fun k h=>by rw [hd] at h;cases h
  obtain ⟨xc,hxv,hxs⟩: ∃xc:XC,xc.val = .agg #[.int .i64 k, .string s, .slice p kids.length c]∧xc.sig=(k,s,kids.length):=⟨⟨k,s,p,kids.length,c,hs,by omega⟩,rfl,rfl⟩;have hy1:=hY (n - 1) pre xc (W.alloc (.cells #[.int .i64 k, .string s, .slice p kids.length c] 25)) (hJ _ _ _ hj) (by simp at hN;omega);obtain ⟨fn,tmps,assign,body,hy,hR⟩:=hy1;rw [hxv] at hy;have HR:=Lib.hid hR;clear hR;have HX:=Lib.hid ih;have HO:=Lib.hid (mI.1 hoks);have HRd:=Lib.hid hr;have HBl:=Lib.hid hb;have HNN:=Lib.hid hN;have HJ:=Lib.hid hJ;have HXS:=Lib.hid hxs
  have HW:Hid (W.heap.size<(W.alloc (.cells #[.int .i64 k, .string s, .slice p kids.length c] 25)).heap.size):=by show _<_;simp
  have HB:Hid ((W.alloc (.cells #[.int .i64 k, .string s, .slice p kids.length c] 25)).heap[W.heap.size]? = some (.cells #[.int .i64 k, .string s, .slice p kids.length c] 25)):=by show _=_;exact ew _ _
  clear ih hoks hr hb hN hj hs hY hJ hxv hxs;unfold maxLen at hc2;refine callsIn_of_wp Tryz.func75 rfl (hF _) ?_ hro;simp only [Tryz.ntmps75,UA,Uh,Ub,Nat.reduceAdd,Nat.reduceSub,VF,VG,VH,VI,VJ,VK]
  gi_wp2_with fail
  refine HR.out.mono ?_
  rintro e W2 (⟨rfl,hJ2,hk2⟩|⟨rfl,hx2⟩)
  ·have hbox:=hk2.box hhi het HB.out;have hk1:Kept lo hi et W W2:=(Kept.alloc W _).trans hk2;have hce:=aH hbox 2;have HH:=Lib.hid hbox;have HK:=Lib.hid hk1;have HJ2:=Lib.hid hJ2;clear hbox hk1 hk2 hJ2;simp only [Us,VB,Ve] at hce
   gi_wp2_with fail
   gi_loopw [4,14] (fun r i wr=>r = .bool false∧ ∃k:Nat,i = .int .i64 k∧k<=kids.length∧Kept lo hi et W wr∧ ∃L,L.map XC.sig=((bE (kids.take k))).map Ex.sig∧J (pre++[xc]++L) wr) (fun _ i _=>kids.length - (intOf i).toNat)
   case atStart=>exact ⟨rfl,0,rfl,Nat.zero_le _,HK.out,[],rfl,by simpa using HJ2.out⟩
   case round=>
    obtain ⟨rfl,i,rfl,hik,hkw,L,hL,hJL⟩:=hrel;have HKW:=Lib.hid hkw;have HL:=Lib.hid hL;have HJL:=Lib.hid hJL
    have hlen:L.length=(bE (kids.take i)).length:=by have:=congrArg List.length hL;simpa using this
    clear hkw hL hJL
    by_cases hlt:i<kids.length
    ·have hcw:=HKW.out.cells HBl.out hlo;obtain ⟨b1,o1,k1,s1,l1,v1,rfl,hx1,hr1,a0,a1,a2⟩:=HRd.out.at hlt;obtain ⟨p1,c1,rfl, -, -⟩:=hr1.shape
     replace a0:=hcw _ _ _ a0
     replace a1:=hcw _ _ _ a1
     replace a2:=hcw _ _ _ a2
     have hq1:=kS a0;have hmem:kids[i]∈kids:=List.getElem_mem _
     have hrx:eu w0 kids[i] [.int .i64 k1, .string s1, .slice p1 l1.length c1]:=by rw [hx1,eu];exact ⟨_,rfl,hr1⟩
     have hpp:=nL hlt
     have hbd:(pre++[xc]++L).length+(ai kids[i]).length<=N:=by
      have h1:=HNN.out;have h2:=pU kids (i+1);rw [hpp] at h2;simp at h1 h2 ⊢;omega
     have HH1:=Lib.hid (fun m W' hcc hh hj=>HX.out kids[i] hmem m _ (pre++[xc]++L) W' hrx (HO.out _ hmem) hcc hh hj hbd);have HCW:=Lib.hid hcw;have HPP:=Lib.hid hpp;have hhw:=T8 hhi HKW.out.size;have HB2:=Lib.hid (fun o=>Kept.alloc (lo:=lo) (hi:=hi) (e:=et) wr o)
     have HS2:Hid (∀o:Obj,hi<=(wr.alloc o).heap.size):=fun o=>by simp;omega
     have HJJ:Hid (∀o:Obj,J (pre++[xc]++L) (wr.alloc o)):=fun o=>HJ.out _ _ _ HJL.out;have HC2:Hid (∀o:Obj,Cells w0 (wr.alloc o)):=fun o=>(HB2.out o).cells HCW.out hlo;clear hx1 hr1 hcw hmem hrx hpp hbd hlen
     gi_wp2_with fail
     refine (HH1.out _ _ (HC2.out _) (HS2.out _) (HJJ.out _)).mono ?_
     rintro e W3 (⟨rfl,⟨L3,hL3,hJ3⟩,hk3⟩|⟨rfl,q,hq,hx3⟩)
     ·have HL3:=Lib.hid hL3;have HJ3:=Lib.hid hJ3;have HK3:=Lib.hid (HKW.out.trans ((HB2.out _).trans hk3));clear hL3 hJ3 hk3
      gi_wp2_with fail
      go_roundw
      case rel=>exact ⟨rfl,i+1,by go_num,by omega,HK3.out,L++L3,by rw [HPP.out];simp [HL.out,HL3.out],by simpa using HJ3.out⟩
      case measure=>simp [intOf];omega
     ·have HQ:=Lib.hid hq;have HX3:=Lib.hid hx3;clear hq hx3
      gi_wp2_with fail
      go_ret
      refine .inr ⟨rfl,[xc]++(L++q), ?_,by simpa using HX3.out⟩;obtain ⟨r,hr⟩:=HQ.out;have h2:=ix (kids.take (i+1)) (kids.drop (i+1));rw [List.take_append_drop,HPP.out] at h2;refine ⟨r++(bE (kids.drop (i+1))).map Ex.sig, ?_⟩;rw [h2];simp [HXS.out,Ex.sig,HL.out, <- hr]
    ·gi_wp2
     go_ret
     obtain rfl:i=kids.length:=by omega
     refine .inl ⟨rfl,⟨[xc]++L, ?_,by simpa using HJL.out⟩,HKW.out⟩;simp [HXS.out,Ex.sig,HL.out]
  ·gi_wp2
   go_ret
   exact .inr ⟨rfl,[xc],by simp [HXS.out,Ex.sig],hx2⟩
theorem qM (F:Fence) (hF: ∀f,F.fn f) (hd:F.depth=none) (hro:F.round=none) (n lo hi B:Nat) (et:TypeId) (het:25≠et) (x:Ex) (cx:List Value) (w0 w:World) (hlo:w0.heap.size<=lo) (hhi:hi<=w.heap.size)
  (hx:eu w0 x cx) (hok:x.ok) (hc:Cells w0 w) (hB:w.heap[B]? = some (.cells cx.toArray 25)) :
  SeqStopsK F n Tryz.prog 74 #[.pointer (some ⟨B,0,none⟩)] (fun c:XC=> #[c.val]) (Kept lo hi et) (fun L=>L.map XC.sig=(ai x).map Ex.sig) (fun q=>q.map XC.sig <+: (ai x).map Ex.sig) (ai x).length w:=by
 intro l J Jx W hW hJ hJx hY h0;have hw:=FE F hF hd hro l (ai x).length lo hi et het J Jx w0 hlo (fun pre W o h=>hJ pre _ _ none h (World.grownBy_alloc W o none) (fun r e=>by cases e)) (fun m pre c W hj hl=>qx hd m (hY pre c W hj hl)) x (n - 1) cx [] W hx hok (hc.trans (.of hW)) (T8 hhi hW.size) h0 (by simp);obtain ⟨k,s,kids⟩:=x;rw [eu] at hx;obtain ⟨sv,rfl,hr⟩:=hx;obtain ⟨p,c,rfl, -, -⟩:=hr.shape;have hbw:=(hW.block B (Array.getElem?_eq_some_iff.1 hB).1).trans hB;have c0:=aH hbw 0;have c1:=aH hbw 1;have c2:=aH hbw 2;simp only [Us,VB,Ve] at c0 c1 c2;have HW:=Lib.hid hw
 have hdd: ∀k:Nat,(F.depth.isSome=true->1<=k):=fun k h=>by rw [hd] at h;cases h
 clear hw hJ hJx hY h0 hr hbw hB hc hW;refine callsIn_of_wp Tryz.func74 rfl (hF _) ?_ hro;simp only [Tryz.ntmps74,UA,Uh,Ub,Nat.reduceAdd,Nat.reduceSub,VF,VG,VH,VI,VJ,VK]
 gi_wp2_with fail
 refine HW.out.mono ?_
 rintro e W1 (⟨rfl,⟨L,hL,hJ1⟩, -⟩|⟨rfl,q,hq,hx⟩)
 ·have HL:=Lib.hid hL;have HJ1:=Lib.hid hJ1;clear hL hJ1
  gi_wp2
  go_end0
  exact ⟨⟨_,rfl⟩, .inl ⟨L,HL.out,by simpa using HJ1.out⟩⟩
 ·have HQ:=Lib.hid hq;have HX:=Lib.hid hx;clear hq hx
  gi_wp2
  go_end0
  exact ⟨⟨_,rfl⟩, .inr ⟨q,HQ.out,by simpa using HX.out⟩⟩
theorem vG (k:Int) (s:ByteArray) (p:Option Addr) (n c:Nat) (w:World) :
  Calls Tryz.prog 49 #[.agg #[.int .i64 k, .string s, .slice p n c]] w fun e w'=>e = .returned (.func (.func 74) #[] #[.pointer (some ⟨w.heap.size,0,none⟩)])∧w.alloc (.cells #[.int .i64 k, .string s, .slice p n c] 25)=w':=by
 go_enter Tryz.func49,Tryz.ntmps49
 go_wp2_with fail
 go_ret
 exact ⟨rfl,rfl⟩
open Go.RowKit Go.Shelf
attribute [local go_sem] Oper.semAt_some
theorem xa {x:Ex} {q:List XC} (h:q.map XC.sig <+: (ai x).map Ex.sig) (hq:24<q.length∨ ∃c,c∈q∧qL c.sig=false):ay x=false:=by
 rw [qC];obtain ⟨r,hr⟩:=h;rw [<-hr]
 rcases hq with hq|⟨c,hc,hf⟩
 ·rw [decide_eq_false (by simp;omega),Bool.false_and]
 ·have:(q.map XC.sig++r).all qL=false:=by
   rw [List.all_eq_false];exact ⟨c.sig,by simp;exact .inl ⟨c,hc,rfl⟩,by rw [hf];decide⟩
  rw [this,Bool.and_false]
theorem w9 {x:Ex} {q:List XC} (h:q.map XC.sig=(ai x).map Ex.sig) (hq:q.length<=24) (hp: ∀c,c∈q->qL c.sig=true):ay x=true:=by
 rw [qC, <- h,decide_eq_true (by simpa using hq),Bool.true_and,List.all_map,List.all_eq_true];exact hp
theorem uh (x:Ex) (cx:List Value) (w:World) (hx:eu w x cx) (hok:x.ok) :
  Calls Tryz.prog 27 #[.agg cx.toArray] w (FJ w (.bool (ay x))):=by
 obtain ⟨k,s,kids⟩:=x;have hx':=hx;rw [eu] at hx;obtain ⟨sv,rfl,hr⟩:=hx;obtain ⟨p,c,rfl, -, -⟩:=hr.shape;refine (callsIn_wide (n:=9)).1 ?_;have HX:=Lib.hid hx';have HO:=Lib.hid hok;clear hx' hok hr;refine callsIn_of_wp_marks Tryz.func27 rfl trivial ?_ rfl;simp only [Tryz.ntmps27,UA,Uh,Ub,Nat.reduceAdd,Nat.reduceSub,VF,VG,VH,VI,VJ,VK]
 gi_wp2_with fail
 refine ⟨trivial, ?_⟩;refine (callsIn_wide.2 (vG _ _ _ _ _ _)).mono ?_;rintro e w' ⟨rfl,rfl⟩
 gi_wp2_with fail
 obtain ⟨bx,hbx⟩: ∃bx:Obj,bx = .cells #[.int .i64 k, .string s, .slice p kids.length c] 25:=⟨_,rfl⟩;rw [<-hbx];obtain ⟨W0,hW0⟩: ∃W0,(((w.alloc bx).alloc (.cells #[.bool false] 4)).alloc (.cells #[.int .i64 0] 3)).alloc bx=W0:=⟨_,rfl⟩
 have hs0:W0.heap.size=w.heap.size+4:=by rw [<-hW0];simp
 have hb0:Below w.heap.size w W0:=by rw [<-hW0];exact ((((Below.refl w.heap.size w).alloc (T7 _) _).alloc (by simp) _).alloc (by simp;omega) _).alloc (by simp;omega) _
 have hbr:W0.heap[w.heap.size+1]? = some (.cells #[.bool false] 4 (0,0)):=by rw [<-hW0];exact jF (jF (by simpa using ew (w.alloc bx) _) _) _
 have hbn:W0.heap[w.heap.size+2]? = some (.cells #[.int .i64 0] 3 (0,0)):=by rw [<-hW0];exact jF (by simpa using ew ((w.alloc bx).alloc (.cells #[.bool false] 4)) _) _
 have hbp:W0.heap[w.heap.size+3]? = some bx:=by rw [<-hW0];simpa using ew (((w.alloc bx).alloc (.cells #[.bool false] 4)).alloc (.cells #[.int .i64 0] 3)) bx
 rw [hbx] at hbp;have hseq:=qM Fence.wide (fun _=>trivial) rfl rfl 8 w.heap.size (w.heap.size+3) (w.heap.size+3) 0 (by decide) _ _ w W0 (T7 _) (by omega) HX.out HO.out (.of hb0) hbp;rw [hW0];clear hbx
 refine IQ (lb:= #[.pointer (some ⟨w.heap.size+3,0,none⟩)]) (gf:=74) rfl (enters_of Tryz.func74 (by kernel_rfl) rfl) hseq (Below.refl _ _) (fun _=>rfl)
  (fun pre W=>(Below w.heap.size w W∧W.heap[w.heap.size+2]? = some (.cells #[.int .i64 pre.length] 3 (0,0))∧W.heap[w.heap.size+1]? = some (.cells #[.bool false] 4 (0,0))∧W0.heap.size<=W.heap.size)∧pre.length<=24∧ ∀c,c∈pre->qL c.sig=true)
  (fun c pre W=>(Below w.heap.size w W∧W.heap[w.heap.size+1]? = some (.cells #[.bool false] 4 (0,0)))∧c = .ret∧(24<pre.length∨ ∃c,c∈pre∧qL c.sig=false))
  (((ownFrom_below (T7 _) (by omega)).and ((jI _ _ (fun s:List XC=> #[.int .i64 s.length]) _).and ((jI _ _ (fun _:List XC=> #[.bool false]) _).and (fun _ _ _ _ hs hg _=>T8 hs hg.size)))).and (ownFrom_pure _ _))
  (fun _=>((ownFrom_below (T7 _) (by omega)).and (jI _ _ (fun _:List XC=> #[.bool false]) _)).and (ownFrom_pure _ _))
  ⟨⟨hb0,hbn,hbr,T7 _⟩,Nat.zero_le _,fun _ h=>by cases h⟩ 4 (fun c=> #[.int .i64 c.kind, .string c.label, .slice c.ptr c.len c.cap]) 25 (fun _ _ h=>h.1.2.2.2) ?assign ?body ?done ?stop
 case assign=>
  intro l x W K hK;simp only [handed,XC.val,VL,VM,VN,VO,VP,VQ,VR];simp only [handed,XC.val,Act.oa,VL,VM,VN,VO,VP,VQ,VR] at hK
  gi_wp2
  exact hK
 case body=>
  rintro l pre x B W hl hrec ⟨⟨hb,hn,hr,hsz⟩,hle,hall⟩ hB hbB hlen;have hcn:=aH hn 0;have hfn:=ct hn 0;have hcr:=aH hr 0;have hfr:=ct hr 0;have hp0:=aH hbB 0;have hp1:=aH hbB 1;have hp2:=aH hbB 2;simp only [Us,Ve,VB] at hcn hcr hp0 hp1 hp2
  have hB1: ¬B=w.heap.size+2:=by omega
  have hB2: ¬w.heap.size+2=B:=by omega
  obtain ⟨W1,hW1⟩: ∃W1,W1=W.setCell ⟨w.heap.size+2,0,none⟩ (.int .i64 ((pre.length:Int)+1)):=⟨_,rfl⟩
  have hk1:Kept w.heap.size (w.heap.size+3) 0 W W1:=by rw [hW1];exact Kept.setCell W (by omega) (by omega) _
  have hf1:KeepsFrom W0.heap.size W W1:=by rw [hW1];exact (KeepsOthers.setCell _ _ _).from _
  have hbw1:Below w.heap.size w W1:=by rw [hW1];exact hb.setCell (p:=⟨w.heap.size+2,0,none⟩) (by simp) _
  have hn1:W1.heap[w.heap.size+2]? = some (.cells #[.int .i64 ((pre++[x]).length:Nat)] 3 (0,0)):=by rw [hW1];simpa using je hn (.int .i64 ((pre.length:Int)+1))
  have hr1:W1.heap[w.heap.size+1]? = some (.cells #[.bool false] 4 (0,0)):=by rw [hW1];exact dv hr _ (by omega)
  have hz1:W0.heap.size<=W1.heap.size:=by rw [hW1];exact T8 hsz (KeepsOthers.setCell _ _ _).size
  have HA:=Lib.hid (show _∧_∧_∧_∧_∧_ from ⟨hk1,hf1,hbw1,hn1,hr1,hz1⟩)
  have hzl:w.heap.size+1<W1.heap.size:=by omega
  have HP:=Lib.hid (fun W'=>Iv x.kind x.label x.ptr x.len x.cap W' x.hl x.hn);have HS:Hid (∀b,bc x.kind x.label x.len=b->qL x.sig=b):=fun b h=>h;have HALL:=Lib.hid hall;have HB0:=Lib.hid hb;have HW1:=Lib.hid hW1;clear hb hn hr hbB hk1 hf1 hbw1 hn1 hr1 hz1 hall hW1 hsz;simp only [handed,Act.oa,VL,VM,VN,VO,VP,VQ,VR]
  by_cases h24:pre.length=24
  ·have hgt:(24:Int)<(pre.length:Int)+1:=by omega
   have H24:=Lib.hid h24;clear h24;have hcr1:=aH HA.out.2.2.2.2.1 0;have hfr1:=ct HA.out.2.2.2.2.1 0;rw [HW1.out] at hcr1 hfr1;simp only [Us,Ve] at hcr1
   gi_wp2_with fail
   refine ⟨trivial, ?_⟩
   gi_wp2
   obtain ⟨hk1,hf1,hbw1,hn1,hr1,hz1⟩:=HA.out;rw [HW1.out] at hf1 hbw1 hr1;refine ⟨hf1.trans ((KeepsOthers.setCell _ _ _).from _),⟨hbw1.setCell (p:=⟨w.heap.size+1,0,none⟩) (by simp) _,je hr1 _⟩,rfl, .inl (by have:=H24.out;simp;omega)⟩
  ·have hgt: ¬(24:Int)<(pre.length:Int)+1:=by omega
   have H24:=Lib.hid h24;clear h24
   cases hpb:bc x.kind x.label x.len
   ·rw [hpb] at HP;have HPB:=Lib.hid (HS.out _ hpb);clear hpb
    gi_wp2_with fail
    refine ⟨trivial,(CallsIn.inRound l (callsIn_wide.2 (HP.out _))).mono ?_⟩;rintro e w2 ⟨rfl,hb2⟩
    have hb2':Below W1.heap.size W1 w2:=by rw [HW1.out];exact hb2
    clear hb2;obtain ⟨hk1,hf1,hbw1,hn1,hr1,hz1⟩:=HA.out;have hr2:w2.heap[w.heap.size+1]? = some (.cells #[.bool false] 4 (0,0)):=(hb2'.block _ (by omega)).trans hr1;have hcr1:=aH hr2 0;have hfr1:=ct hr2 0;simp only [Us,Ve] at hcr1;have HR2:=Lib.hid hr2;have HB2:=Lib.hid hb2';clear hk1 hf1 hbw1 hn1 hr1 hz1 hr2 hb2'
    gi_wp2
    obtain ⟨hk1,hf1,hbw1,hn1,hr1,hz1⟩:=HA.out;exact ⟨(hf1.trans (ly HB2.out)).trans ((KeepsOthers.setCell _ _ _).from _),⟨(cX hbw1 HB2.out).setCell (p:=⟨w.heap.size+1,0,none⟩) (by simp) _,je HR2.out _⟩,rfl, .inr ⟨x,by simp,HPB.out⟩⟩
   ·rw [hpb] at HP;have HPB:=Lib.hid (HS.out _ hpb);clear hpb
    gi_wp2_with fail
    refine ⟨trivial,(CallsIn.inRound l (callsIn_wide.2 (HP.out _))).mono ?_⟩;rintro e w2 ⟨rfl,hb2⟩
    have HB2:Hid (Below W1.heap.size W1 w2):=by show Below _ _ _;rw [HW1.out];exact hb2
    clear hb2
    gi_wp2
    obtain ⟨hk1,hf1,hbw1,hn1,hr1,hz1⟩:=HA.out;have hb2:=HB2.out;refine ⟨hf1.trans (ly hb2),hk1.trans (Kept.below hb2),⟨cX hbw1 hb2,(hb2.block _ (by omega)).trans hn1,(hb2.block _ (by omega)).trans hr1,T8 hz1 hb2.size⟩,by have:=H24.out;simp;omega, ?_⟩;intro c hc
    rcases List.mem_append.1 hc with hc|hc
    ·exact HALL.out c hc
    ·rw [List.mem_singleton.1 hc];exact HPB.out
 case done=>
  rintro D xs W hD hS ⟨⟨hb,hn,hr,hsz⟩,hle,hall⟩ hK;have hcr:=aH hr 0;have hfr:=ct hr 0;simp only [Us,Ve] at hcr;have hfin:=w9 hS hle hall;have HF:=Lib.hid hfin;have HR:=Lib.hid hr;have HB:=Lib.hid hb;have HK:=Lib.hid hK;have HD:=Lib.hid hD;have H0:=Lib.hid hs0;clear hb hn hr hsz hle hall hK hD hS hfin hW0 hb0 hbr hbn hbp hseq hs0
  gi_wp2
  have hD:=HD.out;have h0:=H0.out;have hKs:=dv HK.out (b:=w.heap.size+1) (o:=0) (.bool true) (by omega);refine ⟨by simp, .inl ⟨_,_,rfl,run_takeDeferred hKs, ?_⟩⟩;have hbx:=du (je HR.out (.bool true)) (.deferred none) (D:=D) (by omega);have hcf:=aH hbx 0;simp only [Us,Ve] at hcf
  refine ⟨.bool true, ?_,c7 rfl HF.out.symm ?_⟩
  ·simp [results,Tryz.results27,go_sem,hcf]
  ·exact kJ (HB.out.setCell (p:=⟨w.heap.size+1,0,none⟩) (Nat.le_succ _) _) (by omega) _ hKs
 case stop=>
  rintro D c pre W hD hSp ⟨⟨hb,hr⟩,rfl,hq⟩ hK;have hfin:=xa hSp hq;have HF:=Lib.hid hfin;have HR:=Lib.hid hr;have HB:=Lib.hid hb;have HK:=Lib.hid hK;have HD:=Lib.hid hD;have H0:=Lib.hid hs0;clear hb hr hK hD hSp hq hfin hW0 hb0 hbr hbn hbp hseq hs0
  gi_wp2
  have hD:=HD.out;have h0:=H0.out;refine ⟨by simp, .inl ⟨_,_,rfl,run_takeDeferred HK.out, ?_⟩⟩;have hbx:=du HR.out (.deferred none) (D:=D) (by omega);have hcf:=aH hbx 0;simp only [Us,Ve] at hcf
  refine ⟨.bool false, ?_,c7 rfl HF.out.symm ?_⟩
  ·simp [results,Tryz.results27,go_sem,hcf]
  ·exact kJ HB.out (by omega) _ HK.out
end
section
open Go.RowKit
end
section
open Go.RowKit
end
section
open Go.RowKit
end
section
open Go.RowKit
end
section
def QF (f:FuncId) (cap:List Value) (q:nk->Bool) (w:World):Prop:= ∀(x:nk) (k:Int) (s:ByteArray) (l:List Ex) (v:Value) (W:World),Below w.heap.size w W->x.ok->x.expr = .mk k s l->lM W l v ->
 Calls Tryz.prog f (.agg #[.string x.gz, .string x.to, .bool x.path, .string x.label, .string x.name, .int .i64 k, .string s,v] :: cap).toArray W (FJ W (.bool (q x)))
def QD (f:FuncId) (cap:List Value) (q:Ca->Bool) (w:World):Prop:= ∀(x:Ca) (W:World),Below w.heap.size w W->x.ok ->
 Calls Tryz.prog f (.agg #[.int .i64 x.op, .int .i64 x.left.kind, .string x.left.name, .string x.left.key, .int .i64 x.left.val.kind, .int .i64 x.left.val.num, .string x.left.val.text, .int .i64 x.right.kind, .string x.right.name, .string x.right.key, .int .i64 x.right.val.kind, .int .i64 x.right.val.num, .string x.right.val.text] :: cap).toArray W (FJ W (.bool (q x)))
def QE (f:FuncId) (cap:List Value) (q:ui->Bool) (w:World):Prop:= ∀(x:ui) (W:World),Below w.heap.size w W->x.ok ->
 Calls Tryz.prog f (.agg #[.int .i64 x.kind, .string x.name, .string x.key, .int .i64 x.val.kind, .int .i64 x.val.num, .string x.val.text] :: cap).toArray W (FJ W (.bool (q x)))
section
variable {P:Program}
theorem dD {s:AS} {k i j:Nat} {ob:aa} {row:List AV} (T':TypeId) (z':Nat) (hz':0<z') (hk:s.o[k]? = some (some ob)) (hz:0<ob.z) (hr:ob.rows[i]? = some row) (hj:row[j]? = some (.v (.slice none 0 0))) :
  yg s (AS.mk s.t ((s.o++[some (aa.mk T' z' true [])]).set k (some { ob with rows:=ob.rows.set i (row.set j (.vec s.o.length 0)) })) s.y):=by
 intro f D nu a w hs
 have hv: ∀b,cY (Value.slice none 0 0)=some b->w.heap.size<=b:=fun b e=>by cases e
 have hp:=gH (nu:=nu) (o:=s.o) (ob:=⟨T',z',true,[]⟩) (Below.refl w.heap.size w) hv;have hro:=mS (ob:=⟨T',z',true,[]⟩) hs.ro (Below.refl _ _) hv (.inl ⟨rfl,rfl,rfl⟩);have hlt:=(Uc.1 hk).1
 have hk':(s.o++[some (⟨T',z',true,[]⟩:aa)])[k]? = some (some ob):=by rw [List.getElem?_append_left hlt];exact hk
 have hh:ob.hl=({ ob with rows:=ob.rows.set i (row.set j (.vec s.o.length 0)) }:aa).hl:=by simp [aa.hl]
 obtain ⟨g,cur,hb⟩: ∃g cur,ye D (iY nu s.o.length (.slice none 0 0)) (s.o++[some ⟨T',z',true,[]⟩]) w k ob g cur:=by
  rcases hro.obj k ob hk' with ⟨_,e,_⟩|h|⟨g,es,cl,hm⟩
  ·rw [e] at hr;simp at hr
  ·exact h
  ·have:=hm.z;omega
 have hm:=kr (nu:=iY nu s.o.length (.slice none 0 0)) (o:=s.o++[some ⟨T',z',true,[]⟩]) (w:=w) (w':=w) (ob':={ ob with rows:=ob.rows.set i (row.set j (.vec s.o.length 0)) }) hk' hh.symm hb.bD rfl rfl rfl rfl (fun _ _=>rfl);refine ⟨iY nu s.o.length (.slice none 0 0),hp.trans hm,rfl, ?_,(hs.tm.mono hp (fun _ _ h=>h)).mono hm (fun _ _ h=>h),hs.jm⟩;have hil:=(Uc.1 hr).1;have hjl:=(Uc.1 hj).1
 have key: ∀(i' j':Nat) r c,(ob.rows.set i (row.set j (.vec s.o.length 0)))[i']? = some r->r[j']? = some c-> ∃r0 c0,ob.rows[i']? = some r0∧r0[j']? = some c0∧(c=c0∨(c = .vec s.o.length 0∧c0 = .v (.slice none 0 0))):=by
  intro i' j' r c h1 h2
  by_cases hi:i=i'
  ·subst hi;rw [Uy hil] at h1;cases h1
   by_cases hj':j=j'
   ·subst hj';rw [Uy hjl] at h2;cases h2;exact ⟨row,_,hr,hj, .inr ⟨rfl,rfl⟩⟩
   ·rw [Ux hj'] at h2;exact ⟨row,c,hr,h2, .inl rfl⟩
  ·rw [Ux hi] at h1;exact ⟨r,c,h1,h2, .inl rfl⟩
 refine tT hro hk' hh.symm hb.bD hm (fun _ _=>rfl) (cur:=cur) ⟨hb.fL,hb.np,fun hv'=> ?_,fun hv'=> ?_,hb.z,fun i' r hi'=> ?_,fun i' j' r c x h1 h2 h3=> ?_,fun i' j' r c x h1 h2 h3=> ?_⟩
 ·obtain ⟨q1,q2,q3⟩:=hb.box hv';exact ⟨q1,by simpa using q2,q3⟩
 ·obtain ⟨cap,q1,q2,q3,q4⟩:=hb.vec hv';exact ⟨cap,by simpa using q1,by simpa using q2,q3,q4⟩
 ·by_cases hi:i=i'
  ·subst hi;rw [Uy hil] at hi';cases hi';rw [List.length_set];exact hb.row i row hr
  ·rw [Ux hi] at hi';exact hb.row i' r hi'
 ·obtain ⟨r0,c0,k1,k2,e⟩:=key i' j' r c h1 h2;have h0:=hb.cell i' j' r0 c0 x k1 k2 h3
  rcases e with rfl|⟨rfl,rfl⟩
  ·exact h0.mono hm (fun _ _ h=>h)
  ·obtain rfl:=h0.cO
   have:=RA.vec (D:=D) (nu:=iY nu s.o.length (.slice none 0 0)) (o:=(s.o++[some (⟨T',z',true,[]⟩:aa)])) (w:=w) s.o.length 0 ⟨_,List.getElem?_concat_length,fun x hx=>Nat.zero_le _⟩ (by rw [bU];rfl)
   rw [bU] at this;exact this.mono hm (fun _ _ h=>h)
 ·obtain ⟨r0,c0,k1,k2,_⟩:=key i' j' r c h1 h2;exact hb.one i' j' r0 c0 x k1 k2 h3
end
def TD (l:List ByteArray):List (List AV):=l.map (fun s=>[.v (.string s)])
end
section
structure gU where
 d:Tmp
 k:Nat
 e:TypeId
 z:Nat
 n:Nat
 zc:List AV
 bx:Bool:=false
def gU.ob (m:gU):aa:=⟨m.e,m.z, !m.bx,List.replicate m.n m.zc⟩
def gU.av (m:gU) (id:Nat):AV:=if m.bx then .ptr id 0 m.z 0 0 else .vec id m.n
def gU.val (m:gU) (b cap:Nat):Value:=if m.bx then .pointer (some ⟨b,0,none⟩) else .slice (some ⟨b,0,none⟩) m.n cap
theorem gU.Qw (m:gU) (b cap:Nat):cY (m.val b cap)=some b:=by unfold gU.val;split<;>rfl
theorem gU.qu (m:gU) (b cap:Nat):cf (m.val b cap)=some b:=by unfold gU.val;split<;>rfl
def x5 (n0:Nat) (m:gU) (v:Value) (w:World):Prop:= ∃b cap cur,v=m.val b cap∧n0<=b∧w.heap[b]? = some (.cells cur m.e (0,0))∧m.n<=cap∧cap<=maxLen∧cur.size=cap * m.z∧0<m.z∧m.zc.length=m.z∧(m.bx=true->m.n=1∧cap=1) ∧
 ∀(i j:Nat) c x,i<m.n->m.zc[j]? = some c->cur[i * m.z+j]? = some x->c = .v x∧x.oneCell'=true
theorem x5.below {n0:Nat} {m:gU} {v:Value} {w w':World} (hb:Below w.heap.size w w') (h:x5 n0 m v w):x5 n0 m v w':=by
 obtain ⟨b,cap,cur,h1,h2,h3,h4⟩:=h;exact ⟨b,cap,cur,h1,h2,(hb.block b (Ua.1 h3).1).trans h3,h4⟩
section
variable {D:Nat->Prop} {nu:Nat->Nat->Value} {o:List (Option aa)} {w:World} {P:Program}
def FM (nu:Nat->Nat->Value) (N:Nat) (h:Nat->Value):Nat->Nat->Value:=fun id len=>if id<N then nu id len else h (id - N)
theorem iT {N:Nat} {h:Nat->Value} {id len:Nat} (hl:id<N):FM nu N h id len=nu id len:=by simp [FM,hl]
theorem iS {N:Nat} {h:Nat->Value} {i len:Nat}:FM nu N h (N+i) len=h i:=by rw [FM,if_neg (by omega),Nat.add_sub_cancel_left]
theorem GJ {w0:World} (hro:RO D nu o w0) (hb:Below w0.heap.size w0 w) (ms:List gU) (h:Nat->Value) (hm: ∀i m,ms[i]? = some m->x5 w0.heap.size m (h i) w)
  (hne: ∀i j,i<ms.length->j<ms.length->i≠j-> ∀b,cf (h i)=some b->cf (h j)≠some b) :
  bI nu o w0 (FM nu o.length h) (o++ms.map (fun m=>some m.ob)) w∧RO D (FM nu o.length h) (o++ms.map (fun m=>some m.ob)) w∧ ∀i m,ms[i]? = some m->RA D (FM nu o.length h) (o++ms.map (fun m=>some m.ob)) w (m.av (o.length+i)) (h i):=by
 have old: ∀id,id<o.length->(o++ms.map (fun m=>some m.ob))[id]? = o[id]? :=fun id hl=>List.getElem?_append_left hl
 have new: ∀id ob,o.length<=id->(o++ms.map (fun m=>some m.ob))[id]? = some (some ob)-> ∃i m,id=o.length+i∧ms[i]? = some m∧ob=m.ob:=fun id ob hl hh=>by
  rw [UF hl,Ut] at hh
  cases hi:ms[id - o.length]? with
  | none=>rw [hi] at hh;cases hh
  | some m=>
   rw [hi] at hh;simp only [Option.map_some,Um] at hh;exact ⟨id - o.length,m,by omega,hi,hh.symm⟩
 have fL: ∀i m,ms[i]? = some m-> ∃b,w0.heap.size<=b∧cY (h i)=some b∧cf (h i)=some b:=fun i m hi=>by
  obtain ⟨b,cap,cur,h1,h2,_⟩:=hm i m hi;exact ⟨b,h2,by rw [h1];exact m.Qw b cap,by rw [h1];exact m.qu b cap⟩
 have hmo:bI nu o w0 (FM nu o.length h) (o++ms.map (fun m=>some m.ob)) w:=by
  refine ⟨hb.os,hb.tape,hb.output,hb.size,fun id len hh=>⟨?_,iT (jn hh)⟩,fun b hlt hno=>⟨hb.block b hlt, ?_⟩⟩
  ·obtain ⟨x,h1,h2⟩:=hh;exact ⟨x,by rw [old id (Uc.1 h1).1];exact h1,h2⟩
  ·rintro ⟨id,ob,h1,h2⟩
   rcases Ue id o.length with hl|hl
   ·rw [old id hl] at h1;rw [iT hl] at h2;exact hno ⟨id,ob,h1,h2⟩
   ·obtain ⟨i,m,rfl,hi,rfl⟩:=new id ob hl h1;rw [iS] at h2;obtain ⟨b',h3,h4,_⟩:=fL i m hi;rw [h4] at h2;cases h2;omega
 have row: ∀i m,ms[i]? = some m-> ∃g cur,ye D (FM nu o.length h) (o++ms.map (fun m=>some m.ob)) w (o.length+i) m.ob g cur:=fun i m hi=>by
  obtain ⟨b,cap,cur,h1,h2,h3,h4,h5,h6,h7,h8,h10,h9⟩:=hm i m hi
  have inr: ∀(i':Nat) r,(List.replicate m.n m.zc)[i']? = some r->i'<m.n∧r=m.zc:=fun i' r hr=>by
   rw [List.getElem?_replicate] at hr
   split at hr
   ·cases hr;exact ⟨‹_›,rfl⟩
   ·cases hr
  refine ⟨b,cur,h3,hro.up b h2,fun e=> ?_,fun e=>⟨cap, ?_, ?_,h5,h6⟩,h7,fun i' r hr=> ?_,fun i' j r c x q1 q2 q3=> ?_,fun i' j r c x q1 q2 q3=> ?_⟩
  ·have hb:m.bx=true:=by simpa [gU.ob] using e
   obtain ⟨k1,k2⟩:=h10 hb;refine ⟨by rw [iS,h1,gU.val,if_pos hb],by simp [gU.ob,k1], ?_⟩;rw [h6,k2,Nat.one_mul];rfl
  ·have hb:m.bx=false:=by simpa [gU.ob] using e
   rw [iS,h1,gU.val,hb];simp [gU.ob]
  ·simpa [gU.ob] using h4
  ·obtain ⟨_,rfl⟩:=inr i' r hr;exact h8
  ·obtain ⟨hl,rfl⟩:=inr i' r q1;obtain ⟨rfl,_⟩:=h9 i' j c x hl q2 q3;exact .v _
  ·obtain ⟨hl,rfl⟩:=inr i' r q1;exact (h9 i' j c x hl q2 q3).2
 refine ⟨hmo,⟨fun id ob ho=> ?_,fun b hlt=>hro.up b (Nat.le_trans hb.size hlt),fun id id' ob1 ob2 b h1 h2 hd h3 h4=> ?_,hro.gl.mono hmo (fun _ _ h=>h)⟩,fun i m hi=> ?_⟩
 ·rcases Ue id o.length with hl|hl
  ·rw [old id hl] at ho
   rcases hro.obj id ob ho with ⟨e1,e2,e3⟩|⟨g,cur,hr⟩|⟨g,es,cl,hmp⟩
   ·exact .inl ⟨e1,e2,by rw [iT hl];exact e3⟩
   ·refine .inr (.inl ⟨g,cur,(hb.block g (hro.bj ⟨id,ob,ho,hr.bD⟩)).trans hr.fL,hr.np,fun e=> ?_,fun e=> ?_,hr.z,hr.row,fun i j row c x h1 h2 h3=>(hr.cell i j row c x h1 h2 h3).mono hmo (fun _ _ h=>h),hr.one⟩)
    ·rw [iT hl];exact hr.box e
    ·rw [iT hl];exact hr.vec e
   ·exact .inr (.inr ⟨g,es,cl,hmp.tr (hb.block g (hro.bj ⟨id,ob,ho,hmp.bD⟩)) (fun h=>h) (iT hl) (fun i j row c x _ _ hr=>hr.mono hmo (fun _ _ h=>h))⟩)
  ·obtain ⟨i,m,rfl,hi,rfl⟩:=new id ob hl ho;exact .inr (.inl (row i m hi))
 ·rcases Ue id o.length with l1|l1
  ·rw [old id l1] at h1;rw [iT l1] at h3
   rcases Ue id' o.length with l2|l2
   ·rw [old id' l2] at h2;rw [iT l2] at h4;exact hro.sep id id' ob1 ob2 b h1 h2 hd h3 h4
   ·obtain ⟨i,m,rfl,hi,rfl⟩:=new id' ob2 l2 h2;rw [iS] at h4;obtain ⟨b',q1,q2,_⟩:=fL i m hi;rw [q2] at h4;cases h4
    have:=hro.bj ⟨id,ob1,h1,h3⟩
    omega
  ·obtain ⟨i,m,rfl,hi,rfl⟩:=new id ob1 l1 h1;rw [iS] at h3;obtain ⟨b',q1,q2,q3⟩:=fL i m hi;rw [q2] at h3;cases h3
   rcases Ue id' o.length with l2|l2
   ·rw [old id' l2] at h2;rw [iT l2] at h4
    have:=hro.bj ⟨id',ob2,h2,h4⟩
    omega
   ·obtain ⟨j,m',rfl,hj,rfl⟩:=new id' ob2 l2 h2;rw [iS] at h4;obtain ⟨b2,p1,p2,p3⟩:=fL j m' hj;rw [p2] at h4;cases h4;exact hne i j (Uc.1 hi).1 (Uc.1 hj).1 (fun e=>hd (by rw [e])) _ q3 p3
 ·obtain ⟨b,cap,cur,h1,_⟩:=hm i m hi
  have hg:(o++ms.map (fun m=>some m.ob))[o.length+i]? = some (some m.ob):=by rw [UF (by omega),Ut,show o.length+i - o.length=i by omega,hi];rfl
  cases hb:m.bx
  ·have:=RA.vec (D:=D) (nu:=FM nu o.length h) (o:=o++ms.map (fun m=>some m.ob)) (w:=w) (o.length+i) m.n ⟨some m.ob,hg,fun x hx=>by cases hx;simp [aa.hl,gU.ob,hb]⟩ (by rw [iS,h1,gU.val,hb];rfl)
   rw [iS] at this;rw [gU.av,hb];exact this
  ·have:=RA.ptr (D:=D) (nu:=FM nu o.length h) (o:=o++ms.map (fun m=>some m.ob)) (w:=w) (o.length+i) 0 m.z 0 0 b ⟨some m.ob,hg,fun x hx=>Nat.zero_le _⟩ (by rw [iS,h1];exact m.qu b cap)
   rw [gU.av,hb,h1,gU.val,hb];simpa using this
def RP:List AV->Nat->List gU->List AV
 | t,_,[]=>t
 | t,N,m :: l=>RP (t.set m.d (m.av N)) (N+1) l
def xy (s:AS) (ms:List gU):AS:=⟨RP s.t s.o.length ms,s.o++ms.map (fun m=>some m.ob),s.y⟩
def AV.Pk:AV->AV
 | .v x=> .v x
 | .ptr a b c d e=> .ptr a b c d e
 | .vec a b=> .vec a b
 | .agg cs=>if AV.flat (.agg cs) then .agg cs else .undef
 | .jU _ (.v x)=> .v x
 | _=> .undef
theorem RA.Pk {D':Nat->Prop} {nu':Nat->Nat->Value} {o':List (Option aa)} {w':World} (hh: ∀id len,de o id len->de o' id len∧nu' id len=nu id len) {c:AV} {x:Value} (h:RA D nu o w c x):RA D' nu' o' w' c.Pk x:=by
 cases h with
 | v=>exact .v _
 | ptr id len z row off b h1 h2=>exact .ptr id len z row off b (hh _ _ h1).1 (by rw [(hh _ _ h1).2];exact h2)
 | vec id len h1 h2=>
  rw [<-(hh _ _ h1).2] at h2 ⊢;exact .vec id len (hh _ _ h1).1 h2
 | agg cs xs h1 h2 h3=>
  simp only [AV.Pk]
  split
  ·rename_i hf;exact (RA.agg cs xs h1 h2 h3:RA D nu o w _ _).flat hf
  ·exact .undef _
 | jU p a x S h0 h1 hc h2 h3=>
  cases a with
  | v y=>cases h3;exact .v _
  | _=>exact .undef _
 | _=>exact .undef _
def GH:List Tmp->List AV->List AV
 | [],t=>t
 | d :: ds,t=>GH ds (t.set d (t.getD d .undef).Pk)
def wJ (P:Program) (T:TypeId) (n c:AV):Option (Prop×TypeId×Nat×Nat×List AV):=
 match P.underlying T,n,c with
 | some (.slice e), .v (.int _ l), .v (.int _ m)=>match kz P T,dR P e with
  | some (_,z,bytes),some zr=>some (0<=l∧l<=m∧m.toNat * bytes<=140737488355328∧m.toNat<=140737488355328,e,z,l.toNat,zr)
  | _,_=>none
 | _,_,_=>none
theorem uK {T:TypeId} {n c:AV} {x y:Value} (hx:RA D nu o w n x) (hy:RA D nu o w c y) {p:Prop} {e:TypeId} {z l:Nat} {zr:List AV} (hl:wJ P T n c=some (p,e,z,l,zr)) (hp:p) (d:Tmp) (k:Nat) :
  ∃v w',(Instr.makeSlice T x y).run P w = .ok v w'∧Below w.heap.size w w'∧x5 w.heap.size ⟨d,k,e,z,l,zr,false⟩ v w':=by
 unfold wJ at hl
 split at hl
 ·rename_i e0 kl l0 kc m hu
  split at hl
  ·rename_i e2 z0 bytes zr0 ht hz;simp only [Um,Un] at hl;obtain ⟨rfl,rfl,rfl,rfl,rfl⟩:=hl;obtain ⟨h1,h2,h3,h4⟩:=hp;obtain ⟨hu',i,zv,hi,hzv,hzs,hz0,hsize,hbytes⟩:=dY ht;rw [hu] at hu';cases hu';obtain ⟨i',zv',hi',hzv',rfl,hone⟩:=fu hz;rw [hi] at hi';cases hi';rw [hzv] at hzv';cases hzv';cases hx;cases hy
   have hr:=run_make (P:=P) w T e0 i zv hu hi hzv kl kc l0 m h1 h2 (by
    have:(i.bytes:Int) * m=((m.toNat * i.bytes:Nat):Int):=by
     rw [Int.natCast_mul,Int.toNat_of_nonneg (by omega),Int.mul_comm]
    rw [this,hbytes];omega) (by omega)
   rw [hr];refine ⟨_,_,rfl,(Below.refl _ _).alloc (T7 _) _,w.heap.size,m.toNat,_,rfl,T7 _,heap_alloc_new w _,by show l0.toNat<=_;omega,by unfold maxLen;omega,by rw [size_madeCells,hsize],hz0,by simpa using hzs,fun e=>(by cases e),fun i1 j c x q0 q1 q2=> ?_⟩
   replace q0:i1<l0.toNat:=q0
   replace q1:(zv.cells.toList.map AV.v)[j]? = some c:=q1
   rw [Ut] at q1
   cases hq:zv.cells.toList[j]? with
   | none=>rw [hq] at q1;cases q1
   | some u=>
    rw [hq] at q1;cases q1
    have hjl:j<zv.cells.size:=by have:=(Uc.1 hq).1;simpa using this
    have hlt2:i1 * z0+j<m.toNat * i.size:=by rw [hsize];exact ma (by omega) (by omega)
    have hmod:(i1 * z0+j) % zv.cells.size=j:=by rw [hzs];exact rk (by omega)
    replace q2:(madeCells zv.cells (m.toNat * i.size))[i1 * z0+j]? = some x:=q2
    simp only [madeCells,Array.getElem?_map,Array.getElem?_range,if_pos hlt2,Option.map_some,Um] at q2;rw [hmod] at q2
    have hu2:zv.cells[j]? = some u:=by simpa using hq
    rw [getElem!_pos zv.cells j hjl,(Ua.1 hu2).2] at q2;subst q2;exact ⟨rfl,hone u (UK hq)⟩
  ·cases hl
 ·cases hl
def wv (P:Program) (T:TypeId):Option (Prop×TypeId×Nat×Nat×List AV):=
 match dR P T with
 | some zr=>if 0<zr.length then some (True,T,zr.length,1,zr) else none
 | none=>none
theorem DJ {T:TypeId} {p:Prop} {e:TypeId} {z l:Nat} {zr:List AV} (hl:wv P T=some (p,e,z,l,zr)) (d:Tmp) (k:Nat) :
  ∃v w',(Instr.alloc T true (.tuple #[])).run P w = .ok v w'∧Below w.heap.size w w'∧x5 w.heap.size ⟨d,k,e,z,l,zr,true⟩ v w':=by
 unfold wv at hl
 split at hl
 ·rename_i zr0 hz
  split at hl
  ·rename_i hpos;simp only [Um,Un] at hl;obtain ⟨-, rfl,rfl,rfl,rfl⟩:=hl;obtain ⟨i,zv,hi,hzv,he,hone⟩:=fu hz
   have hzr:(zeroValue T).run P w = .ok zv w:=by simp [zeroValue,typeInfo,hi,hzv]
   have hrun:(Instr.alloc T true (.tuple #[])).run P w = .ok (.pointer (some ⟨w.heap.size,0,none⟩)) (w.alloc (.cells zv.cells T)):=by
    simp [Instr.alloc,newVar,newRow,hzr]
   rw [hrun]
   have hsz:zv.cells.size=zr0.length:=by rw [he];simp
   refine ⟨_,_,rfl,(Below.refl _ _).alloc (T7 _) _,w.heap.size,1,zv.cells,rfl,T7 _,heap_alloc_new w _,T7 _,by unfold maxLen;omega,by rw [hsz,Nat.one_mul],hpos,rfl,fun _=>⟨rfl,rfl⟩,fun i1 j c x q0 q1 q2=> ?_⟩
   replace q0:i1<1:=q0
   obtain rfl:i1=0:=by omega
   replace q1:zr0[j]? = some c:=q1
   rw [he,Ut] at q1
   replace q2:zv.cells[0 * zr0.length+j]? = some x:=q2
   rw [Nat.zero_mul,Nat.zero_add] at q2
   have q3:zv.cells.toList[j]? = some x:=by simpa using q2
   rw [q3] at q1;cases q1;exact ⟨rfl,hone x (UK q3)⟩
  ·cases hl
 ·cases hl
def JU (g:Option (Nat×Bool)) (d:Option Tmp) (N:Nat) (x:Option (Prop×TypeId×Nat×Nat×List AV)) (K:Tmp->TypeId->Nat->Nat->List AV->Prop):Prop:=match g,d,x with
 | none,some d,some (p,e,z,n,zc)=>(p∧d<N)∧K d e z n zc
 | _,_,_=>False
theorem FW (d N:Nat) (p:Prop) (e:TypeId) (z n:Nat) (zc:List AV) (K:Tmp->TypeId->Nat->Nat->List AV->Prop):JU none (some d) N (some (p,e,z,n,zc)) K=((p∧d<N)∧K d e z n zc):=rfl
@[congr] theorem On {g:Option (Nat×Bool)} {d:Option Tmp} {N N':Nat} {x x':Option (Prop×TypeId×Nat×Nat×List AV)} {K:Tmp->TypeId->Nat->Nat->List AV->Prop} (h:N=N') (k:x=x'):JU g d N x K=JU g d N' x' K:=by rw [h,k]
def fj (P:Program) (all tail:List Oper):List Oper->Nat->AS->List gU->List Tmp->(AS->Prop)->Prop
 | [],_,s,ms,ds,Q=>dM P all tail (xy ⟨GH ds s.t,s.o,s.y⟩ ms) Q
 | oo :: rest,k,s,ms,ds,Q=>match oo.op with
  | .makeSlice T n c=>JU oo.guard oo.dst s.t.length (wJ P T (s.ev n) (s.ev c)) (fun d e z l zc=>fj P all tail rest (k+1) (s.put (some d) .undef s.o) (ms++[⟨d,k,e,z,l,zc,false⟩]) ds Q)
  | .alloc T=>JU oo.guard oo.dst s.t.length (wv P T) (fun d e z l zc=>fj P all tail rest (k+1) (s.put (some d) .undef s.o) (ms++[⟨d,k,e,z,l,zc,true⟩]) ds Q)
  | _=>match oo.guard with
   | none=>bR P oo.op s (fun r=>fj P all tail rest (k+1) (s.put oo.dst r s.o) ms (oo.dst.toList++ds) Q)
   | some (j,want)=>uk (iP all s j) want (bR P oo.op s (fun r=>fj P all tail rest (k+1) (s.put oo.dst r s.o) ms (oo.dst.toList++ds) Q)) (fj P all tail rest (k+1) (s.put oo.dst (.v Go.undef) s.o) ms (oo.dst.toList++ds) Q)
structure Tt (l:List Oper) (s:AS) (a:Act) (k:Nat) (sk:AS) (rs:List (AV×Option gU)) (A:(Nat->Value)->Act) (ms:List gU) (ds:List Tmp):Prop extends DG l s a k sk (rs.map Prod.fst) A where
 row: ∀m,m∈ms->m.k<k∧rs[m.k]? = some (.undef,some m)∧(∃oi,l[m.k]? = some oi∧oi.dst=some m.d)∧ ∀x,(A x).tmps[m.d]? = some (x m.k)
 SN:(ms.map gU.k).Nodup
 TP: ∀(i:Nat) r m,rs[i]? = some (r,some m)->r = .undef
 dst: ∀(i:Nat) (oi:Oper) d r,i<k->l[i]? = some oi->oi.dst=some d->rs[i]? = some (r,none)->d∈ds
def oE:List (Option aa)->List AV->Option (Prop×List AV×List (Option aa))
 | o,[]=>some (True,[],o)
 | o, .vec id len :: l=>match o[id]? with
  | some (some ob)=>match oE (o.set id none) l with
   | some (p,m,o')=>some ((ob.gk=true∧ob.rows.length=len∧bw 0 ob.rows=true)∧p, .aC ob.z ob.rows len :: m,o')
   | none=>none
  | _=>none
 | o,a :: l=>match oE o l with
  | some (p,m,o')=>some (a.wf 0=true∧p,a :: m,o')
  | none=>none
theorem pZ: ∀(args:List AV) {o:List (Option aa)} {p:Prop} {args':List AV} {o':List (Option aa)},oE o args=some (p,args',o')->p->RO D nu o w->bI nu o w nu o' w∧RO D nu o' w∧args.length=args'.length ∧
  ∀(i:Nat) a b x,args[i]? = some a->args'[i]? = some b->RA D nu o w a x->RA D nu o' w b x
 | [],o,p,args',o',he,hp,h=>by
  simp only [oE,Um,Un] at he;obtain ⟨rfl,rfl,rfl⟩:=he;exact ⟨.refl _ _ _,h,rfl,fun i a b x h=>by simp at h⟩
 | a :: l,o,p,args',o',he,hp,h=>by
  have plain:(match oE o l with
   | some (p,m,o')=>some (a.wf 0=true∧p,a :: m,o')
   | none=>none)=some (p,args',o')->bI nu o w nu o' w∧RO D nu o' w∧(a :: l).length=args'.length∧ ∀(i:Nat) c b x,(a :: l)[i]? = some c->args'[i]? = some b->RA D nu o w c x->RA D nu o' w b x:=fun he=>by
   cases hg:oE o l with
   | none=>rw [hg] at he;cases he
   | some y=>
    obtain ⟨q,m,o2⟩:=y;rw [hg] at he;simp only [Um,Un] at he;obtain ⟨rfl,rfl,rfl⟩:=he;obtain ⟨k1,k2,k3,k4⟩:=pZ l hg hp.2 h;refine ⟨k1,k2,by simp [k3],fun i c b x q1 q2 hr=> ?_⟩
    cases i with
    | zero=>simp at q1 q2;subst q1;subst q2;exact hr.mono k1 (fun _ _ h=>h)
    | succ i=>exact k4 i c b x (by simpa using q1) (by simpa using q2) hr
  cases a with
  | vec id len=>
   simp only [oE] at he
   split at he
   ·rename_i ob ho
    cases hg:oE (o.set id none) l with
    | none=>rw [hg] at he;cases he
    | some y=>
     obtain ⟨q,m,o2⟩:=y;rw [hg] at he;simp only [Um,Un] at he;obtain ⟨rfl,rfl,rfl⟩:=he;obtain ⟨⟨hv,rfl,hw⟩,hq⟩:=hp;have hm:=dC (nu:=nu) (o:=o) (w:=w) id;obtain ⟨k1,k2,k3,k4⟩:=pZ l hg hq (mO h id);refine ⟨hm.trans k1,k2,by simp [k3],fun i c b x q1 q2 hr=> ?_⟩
     cases i with
     | zero=>
      simp at q1 q2;subst q1;subst q2;cases hr;exact (lj h ho hv).mono k1 (fun _ _ h=>h)
     | succ i=>exact k4 i c b x (by simpa using q1) (by simpa using q2) (hr.mono hm (fun _ _ h=>h))
   ·cases he
  | _=>exact plain he
theorem ab.Eu {f:FuncId} {args args':List AV} {o':List (Option aa)} {r:AV} {p:Prop} {K:AV->List (Option aa)->Prop} (h:ar P f args' r) (hz:oE o args=some (p,args',o')) (hp:p) (k:K r o'):ab P f args o K:=by
 refine .inr (.inr ⟨h.2.1,fun D nu w vargs hro hra=> ?_⟩);obtain ⟨k1,k2,k3,k4⟩:=pZ args hz hp hro
 refine (nI h k2 ⟨by rw [<-k3];exact hra.len,fun i c x q1 q2=> ?_⟩).mono ?_
 ·have hi:i<args.length:=by rw [k3];exact (Uc.1 q1).1
  exact k4 i _ c x (Uq hi) q1 (hra.at' i _ x (Uq hi) q2)
 ·rintro e w' ⟨v,rfl,hb,hr⟩;exact ⟨v,nu,o',r,rfl,k1.trans (aw hb),k2.below hb,hr,k⟩
theorem gO {s:AS} (i id:Nat) {len:Nat} {ob:aa} (hi:s.t[i]? = some (.vec id len)) (ho:s.o[id]? = some (some ob)) (hv:ob.gk=true) (hl:ob.rows.length=len):yg s (AS.mk (s.t.set i (.aC ob.z ob.rows len)) (s.o.set id none) s.y):=by
 intro f D nu a w hs;have hm:=dC (nu:=nu) (o:=s.o) (w:=w) id;refine ⟨nu,hm,rfl,mO hs.ro id,⟨by simpa using hs.tm.len,fun j c x h1 h2=> ?_⟩,hs.jm⟩
 by_cases hij:i=j
 ·subst hij;rw [List.getElem?_set_self (Uc.1 hi).1] at h1;cases h1;have hr:=hs.tm.at' i _ x hi h2;subst hl;cases hr;exact lj hs.ro ho hv
 ·rw [List.getElem?_set_ne hij] at h1;exact (hs.tm.at' j c x h1 h2).mono hm (fun _ _ h=>h)
theorem bB {n0 i:Nat} {ops:Array Oper} {d:Bool} {s:AS} {Q:a7->AS->Prop} (h:cr P n0 (.region i ops d) s Q):cr P n0 (.region i ops d) s Q:=h
theorem DM {all tail rest:List Oper} {d:Tmp} {T ty:TypeId} {pos:String} {aft:Array Edge} {k:Nat} {s:AS} {ms:List gU} {ds:List Tmp} {Q:AS->Prop} (h:JU none (some d) s.t.length (wv P T) (fun d e z l zc=>fj P all tail rest (k+1) (s.put (some d) .undef s.o) (ms++[⟨d,k,e,z,l,zc,true⟩]) ds Q)):fj P all tail (⟨some d, .alloc T,ty,pos,aft,none⟩ :: rest) k s ms ds Q:=h
theorem DN {all tail rest:List Oper} {d:Tmp} {T ty:TypeId} {n c:Operand} {pos:String} {aft:Array Edge} {k:Nat} {s:AS} {ms:List gU} {ds:List Tmp} {Q:AS->Prop} (h:JU none (some d) s.t.length (wJ P T (s.ev n) (s.ev c)) (fun d e z l zc=>fj P all tail rest (k+1) (s.put (some d) .undef s.o) (ms++[⟨d,k,e,z,l,zc,false⟩]) ds Q)):fj P all tail (⟨some d, .makeSlice T n c,ty,pos,aft,none⟩ :: rest) k s ms ds Q:=h
theorem AQ {all tail:List Oper} {k:Nat} {s:AS} {ms:List gU} {ds:List Tmp} {Q:AS->Prop} (h:dM P all tail (xy ⟨GH ds s.t,s.o,s.y⟩ ms) Q):fj P all tail [] k s ms ds Q:=h
instance {all tail:List Oper} {k:Nat} {s:AS} {ms:List gU} {ds:List Tmp} {Q:AS->Prop}:aA (fj P all tail [] k s ms ds Q) (dM P all tail (xy ⟨GH ds s.t,s.o,s.y⟩ ms) Q):=⟨AQ⟩
instance {all tail rest:List Oper} {d:Tmp} {T ty:TypeId} {n c:Operand} {pos:String} {aft:Array Edge} {k:Nat} {s:AS} {ms:List gU} {ds:List Tmp} {Q:AS->Prop}:aA (fj P all tail (⟨some d, .makeSlice T n c,ty,pos,aft,none⟩ :: rest) k s ms ds Q)
 (JU none (some d) s.t.length (wJ P T (s.ev n) (s.ev c)) (fun d e z l zc=>fj P all tail rest (k+1) (s.put (some d) .undef s.o) (ms++[⟨d,k,e,z,l,zc,false⟩]) ds Q)):=⟨DN⟩
instance {all tail rest:List Oper} {d:Tmp} {T ty:TypeId} {pos:String} {aft:Array Edge} {k:Nat} {s:AS} {ms:List gU} {ds:List Tmp} {Q:AS->Prop}:aA (fj P all tail (⟨some d, .alloc T,ty,pos,aft,none⟩ :: rest) k s ms ds Q)
 (JU none (some d) s.t.length (wv P T) (fun d e z l zc=>fj P all tail rest (k+1) (s.put (some d) .undef s.o) (ms++[⟨d,k,e,z,l,zc,true⟩]) ds Q)):=⟨DM⟩
end
attribute [go_sem] FW wv gU.av wJ xy RP GH AV.Pk AV.flat gU.ob Option.toList_some Option.toList_none
end
section
section
variable {D:Nat->Prop} {nu:Nat->Nat->Value} {o:List (Option aa)} {w:World} {P:Program}
def bH (o:List (Option aa)) (a r:AV):Prop:= ∀(D:Nat->Prop) (nu:Nat->Nat->Value) (w:World) (x:Value),RO D nu o w->RA D nu o w a x->RA D nu [] w r x
def AB (o:List (Option aa)):List AV->List AV->Prop
 | [],[]=>True
 | a :: l,b :: m=>bH o a b∧AB o l m
 | _,_=>False
theorem bH.of {a r:AV} (n:Nat) {p:Prop} (hz:gW o n a=some (p,r)) (hp:p):bH o a r:=fun _ _ _ x hro hra=>(l7 hro n).1 a x p r hz hp hra
theorem AB.at': ∀ {l m:List AV},AB o l m->l.length=m.length∧ ∀(i:Nat) a b,l[i]? = some a->m[i]? = some b->bH o a b
 | [],[],_=>⟨rfl,fun i a b h=>by simp at h⟩
 | a :: l,b :: m,h=>by
  obtain ⟨h1,h2⟩:=AB.at' h.2;refine ⟨by simp [h1],fun i x y k1 k2=> ?_⟩
  cases i with
  | zero=>simp at k1 k2;subst k1;subst k2;exact h.1
  | succ i=>exact h2 i x y (by simpa using k1) (by simpa using k2)
def jW (P:Program) (f:FuncId) (args:List AV) (r:AV):Prop:=(aX 0 args=true∧r.wf 0=true)∧ei P f=true∧ ∀D nu w vargs,RO D nu [] w->fK D nu [] w args vargs->Calls P f vargs w (fun e w'=> ∃v,e = .returned v∧Below w.heap.size w w'∧RA (fun b=>w.heap.size<=b) nu [] w' r v)
theorem jW.Qr {f:FuncId} {args:List AV} {r:AV} (h:jW P f args r):ar P f args r:=by
 refine ⟨h.1,h.2.1,fun D nu w vargs hro hra=>(h.2.2 D nu w vargs hro hra).mono ?_⟩;rintro e w' ⟨v,rfl,hb,hx⟩;exact ⟨v,nu,[],r,rfl,aw hb,hro.below hb,hx.wider (fun b hb=>hro.up b hb),rfl,rfl⟩
def ox (o:List (Option aa)) (r0 r:AV):Prop:= ∀(D:Nat->Prop) (nu:Nat->Nat->Value) (w:World) (x:Value),RO D nu o w->RA D nu o w r0 x->RA (owned nu o) nu [] w r x
theorem ox.vec {id len:Nat} {ob:aa} (ho:o[id]? = some (some ob)) (hv:ob.gk=true) (hl:ob.rows.length=len) (hp: ∀row,row∈ob.rows-> ∀c,c∈row-> ∃x,c = .v x):ox o (.vec id len) (.aC ob.z ob.rows len):=fun D nu w x hro hra=>by
 have hx:x=nu id len:=by
  cases hra with
  | vec=>rfl
 subst hx;subst hl;have hown: ∀b,cf (nu id ob.rows.length)=some b->owned nu o b:=fun b hb=>⟨id,ob,ho,by rw [aa.hl,hv,if_pos rfl];exact Ct hb⟩;have h:=lj hro ho hv;generalize hq:nu id ob.rows.length=q at h hown ⊢;generalize ob.rows.length=n at h ⊢;generalize ob.rows=rows at h hp ⊢
 cases h with
 | bu=>exact .bu _
 | bM _ a=>exact .bM _ a
 | aC _ _ _ b off cap f k1 k2 k3 k4 k5 k6 k7 k8=>
  refine .aC _ _ _ b off cap f k1 k2 k3 (fun hne=>⟨(k4 hne).1,bl _ _,hown b rfl⟩) k5 k6 (fun i j row c q1 q2=> ?_) k8;obtain ⟨y,rfl⟩:=hp row (UK q1) c (UK q2);rw [(k7 i j row _ q1 q2).cO];exact .v y
theorem vH {α:Type} (f:α->List AV) (h: ∀x, ∀c∈f x, ∃y,c = .v y) (l:List α): ∀row,row∈l.map f-> ∀c,c∈row-> ∃y,c = .v y:=fun row hr=>by
 obtain ⟨x,_,rfl⟩:=List.mem_map.1 hr;exact h x
theorem jW.enter {f:FuncId} {fn:Func} {c:Code} {args:List AV} {r:AV} (hf:P.funcs[f]? = some fn) (hb:fn.body=some c) (hc:ei P f=true) (hok:b5 c=true) (hmx:P.follows .mixedOrders=true)
  (ha:aX 0 args=true) (hr:r.wf 0=true) (h:cr P 0 c ⟨args++List.replicate (fn.ntmps - args.length) .undef,[], .no⟩ (we P fn.results.toList (fun r0 o=>ox o r0 r))):jW P f args r:=by
 obtain ⟨_,h2⟩:=gr.enter (o:=[]) hf hb hc hok hmx h;refine ⟨⟨ha,hr⟩,hc,fun D nu w vargs hro hra=>(h2 D nu w vargs hro hra).mono ?_⟩;rintro e w' ⟨v,nu',o',r0,rfl,hm,hro',hra',hz⟩;refine ⟨v,rfl,⟨hm.os,hm.tape,hm.output,hm.size,fun b hb=>(hm.keep b hb (bl _ _)).1⟩,(hz _ _ _ _ hro' hra').tr (n:=0) (fun b hf=>⟨hf.1,bl _ _, ?_⟩) (fun id len hlt=>by omega) hr⟩
 rcases Nat.lt_or_ge b w.heap.size with q|q
 ·exact absurd hf.2.2 (hm.keep b q (bl _ _)).2
 ·exact q
def SQ {α:Type} (enc:α->Value) (l:List α):List (List AV):=l.map (fun a=>[.v (enc a)])
def Ry (f:Nat->Nat) (n:Nat):List AV->List AV->Prop
 | [],[]=>True
 | a :: l,c :: m=>(c = .undef∨(a=c.bd f∧c.wf n=true))∧Ry f n l m
 | _,_=>False
end
def TL (q:DI) (i:Nat):List (List AV):=((q.conds.drop i).flatMap (fun c=>[c.left,c.right])++q.ret).map (fun o=>[.agg (GQ o)])
def PS (l:List (ByteArray×Int)):List (List AV):=l.map (fun p=>[.v (.string p.1), .v (.int .i64 p.2)])
theorem s5 (c:Int):ar Tryz.prog 132 [.v (.int .u8 c)] (.v (.bool (lG c))):=by
 unfold lG;refine gE Tryz.func132 Tryz.ntmps132 Tryz.results132 ?_
 (refine bF ?_;intro K hK K hK)
 refine bC.part (fun h=> ?_) (fun h=> ?_)
 ·(revert K;revert K;exact Mn h)
 ·(revert K;revert K;exact Mn h)
theorem I7 (c:Int):ar Tryz.prog 149 [.v (.int .u8 c)] (.v (.bool (e9 c))):=by
 have L:=s5 c;refine gE Tryz.func149 Tryz.ntmps149 Tryz.results149 ?_
 (refine bF ?_;intro K hK K hK)
 refine ab.one L ?_
 (revert K;revert K;refine bF ?_;intro K hK K hK)
 refine bC.part (fun h=> ?_) (fun h=> ?_)
 ·(revert K;revert K;refine Bj h ?_)
  rw [e9,h];rfl
 ·(revert K;revert K;refine Bj h ?_;intro K hK K hK)
  refine bC.part (fun h2=> ?_) (fun h2=> ?_)
  ·(revert K;revert K;refine G5 h h2 ?_;intro K hK K hK)
   refine bC.part (fun h3=> ?_) (fun h3=> ?_)
   ·(revert K;revert K;refine G6 h h2 h3 ?_)
    rw [e9,h,h2,h3];simp
   ·(revert K;revert K;refine G6 h h2 h3 ?_)
    rw [e9,h,h2,h3];simp
  ·(revert K;revert K;refine G5 h h2 ?_)
   rw [e9,h,h2];simp
theorem ua (s:ByteArray) (k:Nat) (h:k<s.size):tZ s k=s[k].toNat:=by
 unfold tZ;rw [List.getD_eq_getElem?_getD,List.getElem?_eq_getElem (by simpa using h)];simp [ByteArray.getElem_eq_getElem_data]
theorem B3 (s:ByteArray) (hs:s.size<=1000000000000000):ar Tryz.prog 131 [.v (.string s)] (.v (.bool (iv s))):=by
 refine gE Tryz.func131 Tryz.ntmps131 Tryz.results131 ?_
 (refine au ?_;intro K hK)
 refine cD (ι:=Nat) (fun i=>[(0, .v (.string s)),(2, .v (.bool false)),(3, .v (.int .i64 i))]) (fun _=>[]) (fun i=>s.size - i) (fun i=>i<=s.size∧ ∀j (h:j<s.size),j<i->e9 s[j].toNat=true) 0 ⟨by omega,fun j _ h=>absurd h (by omega)⟩ ?_ ?_
 ·refine bp ?_ aj
  rfl
 ·rintro i ⟨hi,hP⟩ K hK;simp only [gz,List.foldl_cons,List.foldl_nil,List.replicate_succ,List.replicate_zero,go_sem]
  (revert K;revert K;refine au ?_;intro K hK K hK K hK)
  refine bC.part (fun h=> ?_) (fun h=> ?_)
  ·have hlt:i<s.size:=by replace h:=bJ h;omega
   have eW:=ak (k:=i) (by omega);have S:=I7 (tZ s i)
   repeat (first|(with_reducible first|refine aA.up ?_|refine fun (K:AK) hK=> ?_|(refine hK _ ?_;clear hK K))|simp only [go_sem]|with_reducible refine wA ?_|clear hK K)
   refine ab.one S ?_
   ((iterate 5 revert K);refine au ?_;intro K hK K hK K hK)
   refine bC.part (fun h2=> ?_) (fun h2=> ?_)
   ·((iterate 3 revert K);refine aK eW ?_)
    exact az.mk (i+1) ⟨by omega,fun j hj h3=>(by
     rcases Nat.lt_or_ge j i with q|q
     ·exact hP j hj q
     ·obtain rfl:j=i:=by omega
      rw [<-ua s j hj];exact h2)⟩ (by omega) (by exact aO aj)
   ·((iterate 3 revert K);refine aK h2 ?_)
    have e:iv s=false:=by
     rw [<-Bool.not_eq_true,iv,Bool.and_eq_true,Bool.and_eq_true,iK];intro hh
     have:=hh.1.1 i hlt
     rw [<-ua s i hlt,h2] at this;cases this
    rw [e]
  ·have he:i=s.size:=by replace h:=bJ h;omega
   have ea:s.data.toList.all (fun b=>e9 b.toNat)=true:=(iK _ _).2 (fun j hj=>hP j hj (by omega))
   ((iterate 3 revert K);refine au ?_;intro K hK K hK)
   refine bC.part (fun h3=> ?_) (fun h3=> ?_)
   ·(revert K;revert K;refine aK h3 ?_)
    have h4:1<=s.size:=by replace h3:=bJ h3;omega
    rw [iv,ea,decide_eq_true h4];simp;omega
   ·(revert K;revert K;refine u5 h3 ?_)
    rw [iv,ea]
    replace h3:=bJ h3
    simp;omega
theorem gy {s w:ByteArray} (hw:w∈words) (h:(s.toList==w.toList)=true):c6 s=false:=by
 have e:words.any (fun x=>cZ s x)=true:=List.any_eq_true.2 ⟨w,hw,h⟩;rw [c6,e];simp
theorem GY (s:ByteArray) (hs:s.size<=1000000000000000):ar Tryz.prog 99 [.v (.string s)] (.v (.bool (c6 s))):=by
 have V:=B3 s hs;refine gE Tryz.func99 Tryz.ntmps99 Tryz.results99 ?_
 (refine au ?_;intro K hK K hK K hK)
 refine ab.one V ?_
 ((iterate 3 revert K);refine au ?_;intro K hK K hK K hK)
 cases hv:iv s with
 | false=>
  ((iterate 3 revert K);refine u5 hv ?_)
  rw [c6,hv];rfl
 | true=>
  have hz:=uf hv;have L:=s5 (tZ s 0)
  have e0:nN s=(tZ s 0:Nat):=by rw [ua s 0 hz.1];simp [nN,hz.1]
  repeat (first|(with_reducible first|refine aA.up ?_|refine fun (K:AK) hK=> ?_|(refine hK _ ?_;clear hK K))|simp only [go_sem,hv]|with_reducible refine wA ?_|clear hK K)
  refine ab.one L ?_
  ((iterate 3 revert K);refine aK hv ?_;intro K hK)
  refine bC.part (fun h1=> ?_) (fun h1=> ?_)
  ·(revert K;refine aK h1 ?_;intro K hK K hK)
   refine bC.part (fun w1=> ?_) (fun w1=> ?_)
   ·(revert K;revert K;refine aK w1 ?_)
    rw [gy (.head _) w1]
   ·(revert K;revert K;refine aK w1 ?_;intro K hK K hK)
    refine bC.part (fun w2=> ?_) (fun w2=> ?_)
    ·(revert K;revert K;refine aK w2 ?_)
     rw [gy (.tail _ (.head _)) w2]
    ·(revert K;revert K;refine aK w2 ?_;intro K hK K hK)
     refine bC.part (fun w3=> ?_) (fun w3=> ?_)
     ·(revert K;revert K;refine aK w3 ?_)
      rw [gy (.tail _ (.tail _ (.head _))) w3]
     ·(revert K;revert K;refine aK w3 ?_;intro K hK K hK)
      refine bC.part (fun w4=> ?_) (fun w4=> ?_)
      ·(revert K;revert K;refine aK w4 ?_)
       rw [gy (.tail _ (.tail _ (.tail _ (.head _)))) w4]
      ·(revert K;revert K;refine aK w4 ?_;intro K hK K hK)
       refine bC.part (fun w5=> ?_) (fun w5=> ?_)
       ·(revert K;revert K;refine aK w5 ?_)
        rw [gy (.tail _ (.tail _ (.tail _ (.tail _ (.head _))))) w5]
       ·(revert K;revert K;refine aK w5 ?_;intro K hK K hK)
        refine bC.part (fun w6=> ?_) (fun w6=> ?_)
        ·(revert K;revert K;refine aK w6 ?_)
         rw [gy (.tail _ (.tail _ (.tail _ (.tail _ (.tail _ (.head _)))))) w6]
        ·(revert K;revert K;refine aK w6 ?_;intro K hK)
         refine bC.part (fun w7=> ?_) (fun w7=> ?_)
         ·(revert K;refine aK w7 ?_)
          rw [gy (.tail _ (.tail _ (.tail _ (.tail _ (.tail _ (.tail _ (.head _))))))) w7]
         ·(revert K;refine aK w7 ?_)
          rw [c6,hv,e0,h1];simp only [words,List.any_cons,List.any_nil,cZ,w1,w2,w3,w4,w5,w6,w7]
          rfl
  ·(revert K;refine aK h1 ?_)
   rw [c6,hv,e0,h1];rfl
end
section
theorem tj (s:ByteArray):(s.toList==(⟨#[]⟩:ByteArray).toList)=nf s:=by
 rw [Bool.eq_iff_iff,toList_inj];unfold nf;rw [decide_eq_true_iff]
 constructor
 ·rintro rfl;rfl
 ·intro h;obtain ⟨⟨l⟩⟩:=s
  cases l with
  | nil=>rfl
  | cons x l=>simp [ByteArray.size] at h
@[go_sem] theorem Qz (n:Nat) (l:List (ByteArray×Int)):bw n (PS l)=true:=bz _ (fun _=>rfl) l
def T3:Option (List ByteArray)->AV
 | none=> .cL [.v (.map none), .v (.bool false)]
 | some _=> .cL [.vec 1 0, .v (.bool true)]
section
variable {P:Program}
end
def aI (l:List Nat):List (List AV):=l.map (fun k:Nat=>[.v (.int .i64 (k:Int))])
attribute [go_sem] Value.oneCell'
def PQ (i:Nat):AV:= .v (.int .i64 ((8000024+i:Nat):Int))
def zu (i:Nat):List AV:=[PQ i, .v (.string ⟨#[]⟩), .v (.slice none 0 0)]
def mg (f:Nat->List AV):Nat->List (List AV)
 | 0=>[]
 | n+1=>mg f n++[f n]
@[go_sem] theorem mh (f:Nat->List AV): ∀n,(mg f n).length=n
 | 0=>rfl
 | n+1=>by rw [mg,Ug,mh f n];rfl
def marksOf (f:Nat->List AV):List (List AV):=mg f 12
mutual
def vr:Ex->List AV
 | .mk k s l=>[.v (.int .i64 k), .v (.string s), .aC 3 (xv l++marksOf zu) l.length]
def xv:List Ex->List (List AV)
 | []=>[]
 | x :: xs=>vr x :: xv xs
end
theorem vt: ∀l:List Ex,xv l=l.map vr
 | []=>rfl
 | x :: xs=>by rw [xv,vt xs,List.map_cons]
theorem iZ (n:Nat) (a b:List (List AV)):bw n (a++b)=(bw n a&&bw n b):=by
 induction a with
 | nil=>simp [bw]
 | cons x a ih=>simp [bw,ih,Bool.and_assoc]
theorem dZ (n:Nat) (f:Nat->List AV) (h: ∀i,aX n (f i)=true): ∀k,bw n (mg f k)=true
 | 0=>rfl
 | k+1=>by simp [mg,iZ,dZ n f h k,bw,h]
theorem Am (n:Nat) (f:Nat->List AV) (h: ∀i,aX n (f i)=true):bw n (marksOf f)=true:=dZ n f h 12
@[go_sem] theorem Oy (f:Nat->List AV):(marksOf f).length=12:=mh f 12
theorem ug (n:Nat) (i:Nat):aX n (zu i)=true:=rfl
theorem vZ (n:Nat) (x:Ex):aX n (vr x)=true:=by
 induction x using Ex.ind with
 | h k s l ih=>
  rw [vr,vt];simp only [aX,AV.wf,Bool.and_true,Bool.true_and,iZ,Am n _ (ug n)];exact xZ (fun r hr=>by obtain ⟨x,hx,rfl⟩:=List.mem_map.1 hr;exact ih x hx)
theorem Al (n:Nat) (l:List Ex):bw n (l.map vr)=true:=bz _ (vZ n) l
attribute [go_sem] vZ Al iZ
@[go_sem] theorem Rn (n k:Nat):bw n (mg zu k)=true:=dZ n _ (ug n) k
@[go_sem] theorem FG (n:Nat):bw n (marksOf zu)=true:=Am n _ (ug n)
def Ex.lens (n:Nat) (x:Ex):Prop:= ∀y,y∈ai x->y.kids.length<=n
def Mt (i:Nat):List AV:=[.v (.string ⟨#[]⟩), .v (.string ⟨#[]⟩), .v (.bool false), .v (.string ⟨#[109]⟩), .v (.string ⟨#[]⟩),PQ i, .v (.string ⟨#[]⟩), .v (.slice none 0 0)]
def Mq (i:Nat):List AV:=[PQ i, .v (.int .i64 0), .v (.string ⟨#[]⟩), .v (.string ⟨#[]⟩), .v (.int .i64 0), .v (.int .i64 0), .v (.string ⟨#[]⟩), .v (.int .i64 0), .v (.string ⟨#[]⟩), .v (.string ⟨#[]⟩), .v (.int .i64 0), .v (.int .i64 0), .v (.string ⟨#[]⟩)]
def Ms (i:Nat):List AV:=[.v (.int .i64 0), .v (.string ⟨#[]⟩), .v (.string ⟨#[]⟩), .v (.int .i64 0),PQ i, .v (.string ⟨#[]⟩)]
def H3 (p:nk):List AV:=[.v (.string p.gz), .v (.string p.to), .v (.bool p.path), .v (.string p.label), .v (.string p.name), .v (.int .i64 p.expr.kind), .v (.string p.expr.label), .aC 3 (p.expr.kids.map vr++marksOf zu) p.expr.kids.length]
theorem FF (n:Nat) (p:nk):aX n (H3 p)=true:=by simp only [H3,aX,AV.wf,iZ,Al,FG,Bool.and_true,Bool.and_self]
@[go_sem] theorem Qy (n:Nat) (l:List nk):bw n (l.map H3)=true:=bz _ (FF n) l
@[go_sem] theorem Rq (n k:Nat):bw n (mg Mt k)=true:=dZ n _ (fun _=>rfl) k
@[go_sem] theorem OO (n:Nat):bw n (marksOf Mt)=true:=dZ n _ (fun _=>rfl) 12
@[go_sem] theorem Rm (n k:Nat):bw n (mg Mq k)=true:=dZ n _ (fun _=>rfl) k
@[go_sem] theorem OL (n:Nat):bw n (marksOf Mq)=true:=dZ n _ (fun _=>rfl) 12
@[go_sem] theorem Rp (n k:Nat):bw n (mg Ms k)=true:=dZ n _ (fun _=>rfl) k
@[go_sem] theorem ON (n:Nat):bw n (marksOf Ms)=true:=dZ n _ (fun _=>rfl) 12
def DI.lens (n:Nat) (q:DI):Prop:=q.q6.length<=n∧q.conds.length<=n∧q.ret.length<=n∧ ∀p,p∈q.q6->p.expr.lens n
inductive Le:AV->AV->Prop
 | refl (a:AV):Le a a
 | jU (p:(Nat->Prop)->World->Value->Prop) (a b:AV):Le a b->Le (.jU p a) b
 | nil (z:Nat):Le (.v (.slice none 0 0)) (.aC z [] 0)
 | agg (cs ds:List AV):cs.length=ds.length->(∀(i:Nat) c d,cs[i]? = some c->ds[i]? = some d->Le c d)->Le (.agg cs) (.agg ds)
 | aC (z:Nat) (rows rows':List (List AV)) (len:Nat):len<=rows'.length->rows'.length<=rows.length->(∀(i:Nat) r r',rows[i]? = some r->rows'[i]? = some r'->r.length=r'.length) ->
   (∀(i j:Nat) r r' c c',rows[i]? = some r->rows'[i]? = some r'->r[j]? = some c->r'[j]? = some c'->Le c c')->Le (.aC z rows len) (.aC z rows' len)
section
variable {D:Nat->Prop} {nu:Nat->Nat->Value} {o:List (Option aa)} {w:World} {P:Program}
theorem RA.le {a b:AV} (h:Le a b): ∀ {x:Value},RA D nu o w a x->RA D nu o w b x:=by
 induction h with
 | refl a=>exact fun h=>h
 | jU p a b _ ih=>intro x h;cases h with|jU _ _ _ S h0 h1 hc h2 h3=>exact ih h3
 | nil z=>intro x h;obtain rfl:=h.cO;exact .bu z
 | agg cs ds hl _ ih=>
  intro x h
  cases h with
  | agg _ xs h1 h2 h3=>
   refine .agg ds xs (by omega) (fun i d y hd hy=> ?_) h3
   have hi:i<cs.length:=by have:=(Uc.1 hd).1;omega
   exact ih i cs[i] d (Uq hi) hd (h2 i _ y (Uq hi) hy)
 | aC z rows rows' len h1 h2 h3 _ ih=>
  intro x h;have up: ∀(i:Nat) r',rows'[i]? = some r'-> ∃r,rows[i]? = some r:=fun i r' hr=>⟨_,Uq (by have:=(Uc.1 hr).1;omega)⟩
  have upj: ∀(i j:Nat) r' c',rows'[i]? = some r'->r'[j]? = some c'-> ∃r c,rows[i]? = some r∧r[j]? = some c:=fun i j r' c' hr hc=>by
   obtain ⟨r,hr'⟩:=up i r' hr;exact ⟨r,_,hr',Uq (by have:=h3 i r r' hr' hr;have:=(Uc.1 hc).1;omega)⟩
  cases h with
  | bu=>
   have:rows'=[]:=UM (by simpa using h2)
   subst this;exact .bu z
  | bM _ a=>
   have:rows'=[]:=UM (by simpa using h2)
   subst this;exact .bM z a
  | aC _ _ _ b off cap f k1 k2 k3 k4 k5 k6 k7 k8=>
   refine .aC z rows' len b off cap f h1 (by omega) k3 (fun hne=>k4 (fun e=>hne (by subst e;exact UM (by simpa using h2)))) (fun i r' hr=> ?_) (fun i j r' c' hr hc=> ?_) (fun i j r' c' hr hc=> ?_) (fun i j r' c' hr hc=> ?_)
   ·obtain ⟨r,hr'⟩:=up i r' hr;rw [<-h3 i r r' hr' hr];exact k5 i r hr'
   ·obtain ⟨r,c,q1,q2⟩:=upj i j r' c' hr hc;exact k6 i j r c q1 q2
   ·obtain ⟨r,c,q1,q2⟩:=upj i j r' c' hr hc;exact ih i j r r' c c' q1 hr q2 hc (k7 i j r c q1 q2)
   ·obtain ⟨r,c,q1,q2⟩:=upj i j r' c' hr hc;exact k8 i j r c q1 q2
def AD (cs ds:List AV):Prop:=cs.length=ds.length∧ ∀(i:Nat) c d,cs[i]? = some c->ds[i]? = some d->Le c d
theorem AD.nil:AD [] []:=⟨rfl,fun i c d h=>by simp at h⟩
theorem AD.cons {c d:AV} {cs ds:List AV} (h:Le c d) (k:AD cs ds):AD (c :: cs) (d :: ds):=⟨by simp [k.1],fun i x y hx hy=>by
 cases i with
 | zero=>cases hx;cases hy;exact h
 | succ i=>exact k.2 i x y hx hy⟩
theorem AD.refl (cs:List AV):AD cs cs:=⟨rfl,fun i c d h k=>by rw [h] at k;cases k;exact .refl c⟩
theorem AD.agg {cs ds:List AV} (h:AD cs ds):Le (.agg cs) (.agg ds):= .agg cs ds h.1 h.2
theorem Le.rows {α:Type} {z:Nat} {f g:α->List AV} {xs:List α} {more:List (List AV)} (h: ∀x,x∈xs->AD (f x) (g x)):Le (.aC z (xs.map f++more) xs.length) (.aC z (xs.map g) xs.length):=by
 have key: ∀(i:Nat) r r',(xs.map f++more)[i]? = some r->(xs.map g)[i]? = some r'->AD r r':=fun i r r' h1 h2=>by
  have hi:i<xs.length:=by simpa using (Uc.1 h2).1
  rw [List.getElem?_append_left (by simpa using hi)] at h1;rw [List.getElem?_map,Uq hi] at h1 h2;cases h1;cases h2;exact h _ (Vx hi)
 exact .aC z _ _ _ (by simp) (by simp) (fun i r r' h1 h2=>(key i r r' h1 h2).1) (fun i j r r' c c' h1 h2 h3 h4=>(key i r r' h1 h2).2 j c c' h3 h4)
theorem fK.le {cs ds:List AV} {xs:Array Value} (h:AD cs ds) (k:fK D nu o w cs xs):fK D nu o w ds xs:=⟨by rw [<-h.1];exact k.len,fun i d x hd hx=>by
 have hi:i<cs.length:=by have:=(Uc.1 hd).1;have:=h.1;omega
 exact (k.at' i cs[i] x (Uq hi) hx).le (h.2 i _ d (Uq hi) hd)⟩
theorem ar.le {f:FuncId} {args args':List AV} {r:AV} (h:ar P f args r) (hw:aX 0 args'=true) (hl:AD args' args):ar P f args' r:=h.args hw (fun _ _ _ _ k=>k.le hl)
end
section
variable {P:Program}
end
def QR:Go.Shelf.Ren:=⟨fun|189=>111|125=>87|257=>136|128=>125|129=>126|294=>151|295=>152|296=>153|297=>154|298=>155|299=>156|216=>157|300=>158|301=>159|328=>169|329=>141|330=>142|331=>170|332=>171|215=>172|343=>177|n=>n,fun|28=>79|3=>3|46=>121|0=>0|51=>95|53=>178|4=>4|183=>170|182=>169|131=>57|5=>5|9=>9|218=>186|222=>190|228=>204|229=>205|n=>n,fun n=>n⟩
def QK:Go.Shelf.Ren:=⟨fun|20=>112|n=>n,fun|22=>79|3=>3|4=>4|0=>0|n=>n,fun n=>n⟩
theorem gj (b:Nat) (l:List Nat):bw b (aI l)=true:=bz _ (fun _=>rfl) _
attribute [go_sem] gj
theorem y8: ∀(l:List Nat) (n i:Nat),l[i]? = some n->l.idxOf n<=i
 | [],n,i,h=>by simp at h
 | x :: l,n,0,h=>by simp at h;subst h;simp
 | x :: l,n,i+1,h=>by
  have:=y8 l n i (by simpa using h)
  rw [List.idxOf_cons];cases x==n<;>simp only [cond_true,cond_false]<;>omega
def QN:Go.Shelf.Ren:=⟨fun|4=>110|n=>n,fun|22=>91|25=>3|3=>3|4=>4|9=>9|20=>20|0=>0|n=>n,fun n=>n⟩
def Tr (w:List ByteArray) (x:Ex):Prop:= ∀fr:List Nat,fr.Pairwise (· < ·)->(∀j,j∈fr->j<=w.length)->ar Tryz.prog 52 [.agg [aZ w], .agg (aS x), .aC 1 (aI fr) fr.length] (.aC 1 (aI (bh w (Lg x) fr)) (bh w (Lg x) fr).length)
inductive AA:Ex->Prop
 | lab (s:ByteArray):AA (.mk 1 s [])
 | many (k:Int) (s:ByteArray) (l:List Ex):(k=2∨k=3)->l.length<=900->(∀x∈l,AA x)->AA (.mk k s l)
 | one (k:Int) (s:ByteArray) (x:Ex):(k=4∨k=5∨k=6)->AA x->AA (.mk k s [x])
theorem su {α β:Type} (f:α->List β) (l:List α) (k:Nat) (h:k<l.length):((l.take (k+1)).flatMap f).length=((l.take k).flatMap f).length+(f l[k]).length:=by
 rw [List.take_add_one,List.flatMap_append,Ug,Uq h];simp only [Option.toList_some,VS,List.flatMap_nil,List.append_nil]
theorem xg {α β:Type} (f:α->List β) (l:List α) (k:Nat):((l.take k).flatMap f).length<=(l.flatMap f).length:=by
 conv=>rhs;rw [<-List.take_append_drop k l,List.flatMap_append,Ug]
 omega
theorem l6 {α β:Type} (f:α->List β): ∀(l:List α) (x:α),x∈l->(f x).length<=(l.flatMap f).length
 | y :: l,x,h=>by
  rw [VS,Ug]
  rcases Vt.1 h with rfl|h
  ·omega
  ·have:=l6 f l x h;omega
theorem fU (k:Int) (s:ByteArray) (l:List Ex):(ai (.mk k s l)).length=1+(l.flatMap ai).length:=by
 rw [ai,bn,List.length_cons];omega
theorem yO (x:Ex):1<=(ai x).length:=by
 obtain ⟨k,s,l⟩:=x;rw [fU];omega
theorem sr (l:List Ex):l.length<=(l.flatMap ai).length:=by
 induction l with
 | nil=>simp
 | cons x l ih=>rw [VS,Ug,List.length_cons];have:=yO x;omega
theorem I8 (x:Ex) (hx:(ai x).length<=1000000):ar Tryz.prog 66 [.agg (aS x)] (.v (.int .i64 ((ai x).length:Nat))):=by
 induction x using Ex.ind with
 | h kd s l ih=>
  rw [fU] at hx ⊢;have hl:=sr l;rw [aD];simp only [Ex.kind,Ex.label,Ex.kids];refine gE Tryz.func66 Tryz.ntmps66 Tryz.results66 ?_
  (refine au ?_;intro K hK)
  refine cD (ι:=Nat) (fun k=>[(1, .ptr 0 0 3 0 0),(2, .v (.int .i64 0)),(3, .v (.int .i64 (1+((l.take k).flatMap ai).length:Nat))),(4, .v (.int .i64 k))]) (fun _=>[some ⟨25,3,false,[[.v (.int .i64 kd), .v (.string s), .aC 3 (l.map aS) l.length]]⟩]) (fun k=>l.length - k) (fun k=>k<=l.length) 0 (by omega) ?_ ?_
  ·refine bp ?_ aj;exact ⟨rfl,rfl⟩
  ·intro k hk K hK;simp only [gz,List.foldl_cons,List.foldl_nil,List.replicate_succ,List.replicate_zero,go_sem]
   (revert K;revert K;refine au ?_;intro K hK K hK K hK)
   refine bC.part (fun h=> ?_) (fun h=> ?_)
   ·have hlt:k<l.length:=by replace h:=bJ h;omega
    have eW:=ak (k:=k) (by omega);have eG:=getD_map aS l k [] hlt;have h1:=su ai l k hlt;have h2:=xg ai l (k+1);have h3:=l6 ai l l[k] (Vx hlt);have C:=ih l[k] (Vx hlt) (by omega)
    have eN:IntKind.i64.wrap (((1+((l.take k).flatMap ai).length:Nat):Int)+(((ai l[k]).length:Nat):Int))=((1+((l.take (k+1)).flatMap ai).length:Nat):Int):=by
     rw [dr (by omega) (by omega)];omega
    simp only [aD] at C eG
    repeat (first|(with_reducible first|refine aA.up ?_|refine fun (K:AK) hK=> ?_|(refine hK _ ?_;clear hK K))|simp only [go_sem,eG]|with_reducible refine wA ?_|clear hK K)
    refine ab.one C ?_
    ((iterate 4 revert K);refine qE eW eN ?_)
    exact az.mk (k+1) (by omega) (by omega) (by exact aO aj)
   ·have he:k=l.length:=by replace h:=bJ h;omega
    have eA:l.take k=l:=by rw [he,List.take_length]
    ((iterate 3 revert K);exact CR eA)
theorem gG (x:Ex): ∀y,y∈ai x->(ai y).length<=(ai x).length:=by
 induction x using Ex.ind with
 | h k s l ih=>
  intro y hy;rw [ai,bn] at hy
  rcases Vt.1 hy with rfl|hy
  ·exact Nat.le_refl _
  ·obtain ⟨z,hz,hy⟩:=List.mem_flatMap.1 hy;have h1:=ih z hz y hy;have h2:=l6 ai l z hz;rw [fU];omega
theorem kQ (x:Ex):x.kids.length<=(ai x).length:=by
 obtain ⟨k,s,l⟩:=x;rw [fU]
 have:=sr l
 simp only [Ex.kids];omega
theorem Lp (x:Ex):x.ok-> ∀y,y∈ai x->xG y.label:=by
 induction x using Ex.ind with
 | h k s l ih=>
  intro h y hy;rw [Ex.ok] at h;rw [ai,bn] at hy
  rcases Vt.1 hy with rfl|hy
  ·exact h.1
  ·obtain ⟨z,hz,hy⟩:=List.mem_flatMap.1 hy;exact ih z hz (mI.1 h.2 z hz) y hy
end
end Go.Proofs.YtfflpdekojlnmaaGreatDoor
