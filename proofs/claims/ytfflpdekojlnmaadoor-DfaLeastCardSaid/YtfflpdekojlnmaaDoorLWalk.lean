/- Facts on the types of the program, each by the kernel (printed by a program of ours). -/
import Derived.KernelRfl
import Derived.Test.YtfflpdekojlnmaaDoorProg
import Derived.Test.YtfflpdekojlnmaaDoorLAbsJ
import Derived.Test.YtfflpdekojlnmaaDoorLBase2
import Derived.Test.YtfflpdekojlnmaaDoorLValue
import Derived.Test.YtfflpdekojlnmaaDoorLRange
namespace Go.Proofs.YtfflpdekojlnmaaDoor

@[go_sem] theorem und3 : Tryd.prog.underlying 3 = some (.int .i64) := by kernel_rfl
@[go_sem] theorem tAgg3 : tAgg Tryd.prog 3 = some (false) := by kernel_rfl
@[go_sem] theorem tSize3 : tSize Tryd.prog 3 = some (1) := by kernel_rfl
@[go_sem] theorem tZero3 : tZero Tryd.prog 3 = some ([.v (.int .i64 0)]) := by kernel_rfl
@[go_sem] theorem aZero3 : aZero Tryd.prog 3 = some (.v (.int .i64 0)) := by kernel_rfl
@[go_sem] theorem und4 : Tryd.prog.underlying 4 = some (.bool) := by kernel_rfl
@[go_sem] theorem tAgg4 : tAgg Tryd.prog 4 = some (false) := by kernel_rfl
@[go_sem] theorem tSize4 : tSize Tryd.prog 4 = some (1) := by kernel_rfl
@[go_sem] theorem tZero4 : tZero Tryd.prog 4 = some ([.v (.bool false)]) := by kernel_rfl
@[go_sem] theorem und5 : Tryd.prog.underlying 5 = some (.int .u8) := by kernel_rfl
@[go_sem] theorem tAgg5 : tAgg Tryd.prog 5 = some (false) := by kernel_rfl
@[go_sem] theorem tSize5 : tSize Tryd.prog 5 = some (1) := by kernel_rfl
@[go_sem] theorem und9 : Tryd.prog.underlying 9 = some (.string) := by kernel_rfl
@[go_sem] theorem tAgg9 : tAgg Tryd.prog 9 = some (false) := by kernel_rfl
@[go_sem] theorem tSize9 : tSize Tryd.prog 9 = some (1) := by kernel_rfl
@[go_sem] theorem tZero9 : tZero Tryd.prog 9 = some ([.v (.string ⟨#[]⟩)]) := by kernel_rfl
@[go_sem] theorem tAgg22 : tAgg Tryd.prog 22 = some (false) := by kernel_rfl
@[go_sem] theorem tSize22 : tSize Tryd.prog 22 = some (1) := by kernel_rfl
@[go_sem] theorem und23 : Tryd.prog.underlying 23 = some (.slice 25) := by kernel_rfl
@[go_sem] theorem tAgg23 : tAgg Tryd.prog 23 = some (false) := by kernel_rfl
@[go_sem] theorem tSize23 : tSize Tryd.prog 23 = some (1) := by kernel_rfl
@[go_sem] theorem tApp23 : tApp Tryd.prog 23 = some (25, 3, 48) := by kernel_rfl
@[go_sem] theorem tAgg25 : tAgg Tryd.prog 25 = some (true) := by kernel_rfl
@[go_sem] theorem tSize25 : tSize Tryd.prog 25 = some (3) := by kernel_rfl
@[go_sem] theorem tZero25 : tZero Tryd.prog 25 = some ([.v (.int .i64 0), .v (.string ⟨#[]⟩), .v (.slice none 0 0)]) := by kernel_rfl
@[go_sem] theorem tFld25f0 : tFld Tryd.prog 25 0 = some (0) := by kernel_rfl
@[go_sem] theorem tFld25f1 : tFld Tryd.prog 25 1 = some (1) := by kernel_rfl
@[go_sem] theorem tFld25f2 : tFld Tryd.prog 25 2 = some (2) := by kernel_rfl
@[go_sem] theorem tPl25 : tPl Tryd.prog 25 = some ([(0, 1), (1, 1), (2, 1)], [.v (.int .i64 0), .v (.string ⟨#[]⟩), .v (.slice none 0 0)]) := by kernel_rfl
@[go_sem] theorem und28 : Tryd.prog.underlying 28 = some (.pointer 57) := by kernel_rfl
@[go_sem] theorem und32 : Tryd.prog.underlying 32 = some (.slice 35) := by kernel_rfl
@[go_sem] theorem tApp32 : tApp Tryd.prog 32 = some (35, 1, 24) := by kernel_rfl
@[go_sem] theorem und35 : Tryd.prog.underlying 35 = some (.slice 4) := by kernel_rfl
@[go_sem] theorem tAgg35 : tAgg Tryd.prog 35 = some (false) := by kernel_rfl
@[go_sem] theorem tSize35 : tSize Tryd.prog 35 = some (1) := by kernel_rfl
@[go_sem] theorem tZero35 : tZero Tryd.prog 35 = some ([.v (.slice none 0 0)]) := by kernel_rfl
@[go_sem] theorem tApp35 : tApp Tryd.prog 35 = some (4, 1, 1) := by kernel_rfl
@[go_sem] theorem und36 : Tryd.prog.underlying 36 = some (.slice 9) := by kernel_rfl
@[go_sem] theorem tAgg36 : tAgg Tryd.prog 36 = some (false) := by kernel_rfl
@[go_sem] theorem tSize36 : tSize Tryd.prog 36 = some (1) := by kernel_rfl
@[go_sem] theorem tApp36 : tApp Tryd.prog 36 = some (9, 1, 16) := by kernel_rfl
@[go_sem] theorem und45 : Tryd.prog.underlying 45 = some (.pointer 67) := by kernel_rfl
@[go_sem] theorem tAgg45 : tAgg Tryd.prog 45 = some (false) := by kernel_rfl
@[go_sem] theorem tSize45 : tSize Tryd.prog 45 = some (1) := by kernel_rfl
@[go_sem] theorem tAgg49 : tAgg Tryd.prog 49 = some (false) := by kernel_rfl
@[go_sem] theorem tSize49 : tSize Tryd.prog 49 = some (1) := by kernel_rfl
@[go_sem] theorem und52 : Tryd.prog.underlying 52 = some (.slice 60) := by kernel_rfl
@[go_sem] theorem tAgg52 : tAgg Tryd.prog 52 = some (false) := by kernel_rfl
@[go_sem] theorem tSize52 : tSize Tryd.prog 52 = some (1) := by kernel_rfl
@[go_sem] theorem tApp52 : tApp Tryd.prog 52 = some (60, 1, 8) := by kernel_rfl
@[go_sem] theorem tAgg54 : tAgg Tryd.prog 54 = some (true) := by kernel_rfl
@[go_sem] theorem tSize54 : tSize Tryd.prog 54 = some (2) := by kernel_rfl
@[go_sem] theorem tZero54 : tZero Tryd.prog 54 = some ([.v (.slice none 0 0), .v (.slice none 0 0)]) := by kernel_rfl
@[go_sem] theorem tFld54f0 : tFld Tryd.prog 54 0 = some (0) := by kernel_rfl
@[go_sem] theorem tFld54f1 : tFld Tryd.prog 54 1 = some (1) := by kernel_rfl
@[go_sem] theorem tPl54 : tPl Tryd.prog 54 = some ([(0, 1), (1, 1)], [.v (.slice none 0 0), .v (.slice none 0 0)]) := by kernel_rfl
@[go_sem] theorem tFld57f0 : tFld Tryd.prog 57 0 = some (0) := by kernel_rfl
@[go_sem] theorem tFld57f1 : tFld Tryd.prog 57 1 = some (2) := by kernel_rfl
@[go_sem] theorem tPl57 : tPl Tryd.prog 57 = some ([(0, 2), (2, 1)], [.v (.slice none 0 0), .v (.slice none 0 0), .v (.slice none 0 0)]) := by kernel_rfl
@[go_sem] theorem und59 : Tryd.prog.underlying 59 = some (.map 9 3) := by kernel_rfl
@[go_sem] theorem und60 : Tryd.prog.underlying 60 = some (.map 9 3) := by kernel_rfl
@[go_sem] theorem tAgg60 : tAgg Tryd.prog 60 = some (false) := by kernel_rfl
@[go_sem] theorem tSize60 : tSize Tryd.prog 60 = some (1) := by kernel_rfl
@[go_sem] theorem tZero60 : tZero Tryd.prog 60 = some ([.v (.map none)]) := by kernel_rfl
@[go_sem] theorem tAgg64 : tAgg Tryd.prog 64 = some (false) := by kernel_rfl
@[go_sem] theorem tSize64 : tSize Tryd.prog 64 = some (1) := by kernel_rfl
@[go_sem] theorem tZero64 : tZero Tryd.prog 64 = some ([.v (.int .u32 0)]) := by kernel_rfl
@[go_sem] theorem und65 : Tryd.prog.underlying 65 = some (.array 25 64) := by kernel_rfl
@[go_sem] theorem tFld67f0 : tFld Tryd.prog 67 0 = some (0) := by kernel_rfl
@[go_sem] theorem tFld67f1 : tFld Tryd.prog 67 1 = some (1) := by kernel_rfl
@[go_sem] theorem tFld67f2 : tFld Tryd.prog 67 2 = some (26) := by kernel_rfl
@[go_sem] theorem tFld67f3 : tFld Tryd.prog 67 3 = some (27) := by kernel_rfl
@[go_sem] theorem tPl67 : tPl Tryd.prog 67 = some ([(0, 1), (1, 25), (26, 1), (27, 1)], [.v (.slice none 0 0), .v (.int .u32 0), .v (.int .u32 0), .v (.int .u32 0), .v (.int .u32 0), .v (.int .u32 0), .v (.int .u32 0), .v (.int .u32 0), .v (.int .u32 0), .v (.int .u32 0), .v (.int .u32 0), .v (.int .u32 0), .v (.int .u32 0), .v (.int .u32 0), .v (.int .u32 0), .v (.int .u32 0), .v (.int .u32 0), .v (.int .u32 0), .v (.int .u32 0), .v (.int .u32 0), .v (.int .u32 0), .v (.int .u32 0), .v (.int .u32 0), .v (.int .u32 0), .v (.int .u32 0), .v (.int .u32 0), .v (.int .u32 0), .v (.bool false)]) := by kernel_rfl
@[go_sem] theorem tAgg69 : tAgg Tryd.prog 69 = some (true) := by kernel_rfl
@[go_sem] theorem tSize69 : tSize Tryd.prog 69 = some (2) := by kernel_rfl
@[go_sem] theorem tZero69 : tZero Tryd.prog 69 = some ([.v (.int .u32 0), .v (.int .u32 0)]) := by kernel_rfl
@[go_sem] theorem tFld69f0 : tFld Tryd.prog 69 0 = some (0) := by kernel_rfl
@[go_sem] theorem tFld69f1 : tFld Tryd.prog 69 1 = some (1) := by kernel_rfl
@[go_sem] theorem tPl69 : tPl Tryd.prog 69 = some ([(0, 1), (1, 1)], [.v (.int .u32 0), .v (.int .u32 0)]) := by kernel_rfl
@[go_sem] theorem und75 : Tryd.prog.underlying 75 = some (.slice 3) := by kernel_rfl
@[go_sem] theorem tAgg75 : tAgg Tryd.prog 75 = some (false) := by kernel_rfl
@[go_sem] theorem tSize75 : tSize Tryd.prog 75 = some (1) := by kernel_rfl
@[go_sem] theorem tZero75 : tZero Tryd.prog 75 = some ([.v (.slice none 0 0)]) := by kernel_rfl
@[go_sem] theorem tApp75 : tApp Tryd.prog 75 = some (3, 1, 8) := by kernel_rfl
@[go_sem] theorem und78 : Tryd.prog.underlying 78 = some (.slice 75) := by kernel_rfl
@[go_sem] theorem tApp78 : tApp Tryd.prog 78 = some (75, 1, 24) := by kernel_rfl
@[go_sem] theorem und82 : Tryd.prog.underlying 82 = some (.map 3 3) := by kernel_rfl
@[go_sem] theorem tAgg82 : tAgg Tryd.prog 82 = some (false) := by kernel_rfl
@[go_sem] theorem tSize82 : tSize Tryd.prog 82 = some (1) := by kernel_rfl
@[go_sem] theorem tZero82 : tZero Tryd.prog 82 = some ([.v (.map none)]) := by kernel_rfl
@[go_sem] theorem und142 : Tryd.prog.underlying 142 = some (.array 32 5) := by kernel_rfl
end Go.Proofs.YtfflpdekojlnmaaDoor

namespace Go.Proofs.YtfflpdekojlnmaaDoor
open Go.RowKit

end Go.Proofs.YtfflpdekojlnmaaDoor

namespace Go.Proofs.YtfflpdekojlnmaaDoor
open Go.RowKit

end Go.Proofs.YtfflpdekojlnmaaDoor

namespace Go.Proofs.YtfflpdekojlnmaaDoor
open Go.RowKit Go.Shelf

attribute [local go_sem] Oper.semAt_some

def WOk (J Jx : List XC → World → Prop) (Kp : World → World → Prop) (pre : List XC) (xs : List Ex) (W : World) (e : Ending) (W' : World) : Prop :=
 (e = .returned (.bool true) ∧ (∃ L, L.map XC.sig = xs.map Ex.sig ∧ J (pre ++ L) W') ∧ Kp W W') ∨
 (e = .returned (.bool false) ∧ ∃ q, q.map XC.sig <+: xs.map Ex.sig ∧ Jx (pre ++ q) W')

def WalkC (F : Fence) (l N lo hi : Nat) (et : TypeId) (J Jx : List XC → World → Prop) (w0 : World) (x : Ex) : Prop :=
 ∀ (n : Nat) (cx : List Value) (pre : List XC) (W : World), RdEx w0 x cx → x.ok → Cells w0 W → hi ≤ W.heap.size → J pre W → pre.length + (exParts x).length ≤ N →
  CallsIn F n Tryd.prog 42 #[.agg cx.toArray, .func (.yield l) #[] #[]] W (WOk J Jx (Kept lo hi et) pre (exParts x) W)

set_option maxRecDepth 100000 in
set_option maxHeartbeats 4000000 in
theorem walkInner (F : Fence) (hF : ∀ f, F.fn f) (hd : F.depth = none) (hro : F.round = none) (l N lo hi : Nat) (et : TypeId) (het : 25 ≠ et) (J Jx : List XC → World → Prop) (w0 : World) (hlo : w0.heap.size ≤ lo)
  (hJ : ∀ pre W o, J pre W → J pre (W.alloc o))
  (hY : ∀ m pre (c : XC) W, J pre W → pre.length < N → YieldAt F m Tryd.prog l #[c.val] W (YOk J Jx (Kept lo hi et) pre c W)) (x : Ex) : WalkC F l N lo hi et J Jx w0 x := by
 induction x using Ex.ind with
 | h k s kids ih =>
  intro n cx pre W hx hok hb hhi hj hN
  rw [RdEx] at hx
  obtain ⟨sv, rfl, hr⟩ := hx
  obtain ⟨p, c, rfl, hc1, hc2⟩ := hr.shape
  rw [Ex.ok] at hok
  obtain ⟨hs, hoks⟩ := hok
  replace hs := hs.len
  rw [exParts] at hN ⊢
  have hdd : ∀ k : Nat, (F.depth.isSome = true → 1 ≤ k) := fun k h => by rw [hd] at h; cases h
  obtain ⟨xc, hxv, hxs⟩ : ∃ xc : XC, xc.val = .agg #[.int .i64 k, .string s, .slice p kids.length c] ∧ xc.sig = (k, s, kids.length) := ⟨⟨k, s, p, kids.length, c, hs, by omega⟩, rfl, rfl⟩
  have hy1 := hY (n - 1) pre xc (W.alloc (.cells #[.int .i64 k, .string s, .slice p kids.length c] 25)) (hJ _ _ _ hj) (by simp at hN; omega)
  obtain ⟨fn, tmps, assign, body, hy, hR⟩ := hy1
  rw [hxv] at hy
  have HR := Lib.hid hR
  clear hR
  have HX := Lib.hid ih; have HO := Lib.hid (exsOk_iff.1 hoks); have HRd := Lib.hid hr; have HBl := Lib.hid hb; have HNN := Lib.hid hN; have HJ := Lib.hid hJ; have HXS := Lib.hid hxs
  have HW : Hid (W.heap.size < (W.alloc (.cells #[.int .i64 k, .string s, .slice p kids.length c] 25)).heap.size) := by show _ < _; simp
  have HB : Hid ((W.alloc (.cells #[.int .i64 k, .string s, .slice p kids.length c] 25)).heap[W.heap.size]? = some (.cells #[.int .i64 k, .string s, .slice p kids.length c] 25)) := by show _ = _; exact heap_new _ _
  clear ih hoks hr hb hN hj hs hY hJ hxv hxs
  unfold maxLen at hc2
  refine callsIn_of_wp Tryd.func42 rfl (hF _) ?_ hro
  simp only [Tryd.ntmps42, List.size_toArray, List.length_cons, List.length_nil, Nat.reduceAdd, Nat.reduceSub, Array.replicate_succ, Array.replicate_zero, List.push_toArray, List.append_toArray, List.nil_append, List.cons_append]
  gi_wp2_with fail
  refine HR.out.mono ?_
  rintro e W2 (⟨rfl, hJ2, hk2⟩ | ⟨rfl, hx2⟩)
  ·have hbox := hk2.box hhi het HB.out
   have hk1 : Kept lo hi et W W2 := (Kept.alloc W _).trans hk2
   have hce := cell_of_block hbox 2
   have HH := Lib.hid hbox; have HK := Lib.hid hk1; have HJ2 := Lib.hid hJ2
   clear hbox hk1 hk2 hJ2
   simp only [List.getElem?_toArray, List.getElem?_cons_succ, List.getElem?_cons_zero] at hce
   gi_wp2_with fail
   gi_loopw [4, 14] (fun r i wr => r = .bool false ∧ ∃ k : Nat, i = .int .i64 k ∧ k ≤ kids.length ∧ Kept lo hi et W wr ∧ ∃ L, L.map XC.sig = ((exsParts (kids.take k))).map Ex.sig ∧ J (pre ++ [xc] ++ L) wr) (fun _ i _ => kids.length - (intOf i).toNat)
   case atStart => exact ⟨rfl, 0, rfl, Nat.zero_le _, HK.out, [], rfl, by simpa using HJ2.out⟩
   case round =>
    obtain ⟨rfl, i, rfl, hik, hkw, L, hL, hJL⟩ := hrel
    have HKW := Lib.hid hkw; have HL := Lib.hid hL; have HJL := Lib.hid hJL
    have hlen : L.length = (exsParts (kids.take i)).length := by have := congrArg List.length hL; simpa using this
    clear hkw hL hJL
    by_cases hlt : i < kids.length
    ·have hcw := HKW.out.cells HBl.out hlo
     obtain ⟨b1, o1, k1, s1, l1, v1, rfl, hx1, hr1, a0, a1, a2⟩ := HRd.out.at hlt
     obtain ⟨p1, c1, rfl, -, -⟩ := hr1.shape
     replace a0 := hcw _ _ _ a0
     replace a1 := hcw _ _ _ a1
     replace a2 := hcw _ _ _ a2
     have hq1 := lt_of_cell a0
     have hmem : kids[i] ∈ kids := List.getElem_mem _
     have hrx : RdEx w0 kids[i] [.int .i64 k1, .string s1, .slice p1 l1.length c1] := by rw [hx1, RdEx]; exact ⟨_, rfl, hr1⟩
     have hpp := exsParts_take_succ hlt
     have hbd : (pre ++ [xc] ++ L).length + (exParts kids[i]).length ≤ N := by
      have h1 := HNN.out
      have h2 := exsParts_take_le kids (i + 1)
      rw [hpp] at h2
      simp at h1 h2 ⊢
      omega
     have HH1 := Lib.hid (fun m W' hcc hh hj => HX.out kids[i] hmem m _ (pre ++ [xc] ++ L) W' hrx (HO.out _ hmem) hcc hh hj hbd)
     have HCW := Lib.hid hcw; have HPP := Lib.hid hpp
     have hhw := Nat.le_trans hhi HKW.out.size
     have HB2 := Lib.hid (fun o => Kept.alloc (lo := lo) (hi := hi) (e := et) wr o)
     have HS2 : Hid (∀ o : Obj, hi ≤ (wr.alloc o).heap.size) := fun o => by simp; omega
     have HJJ : Hid (∀ o : Obj, J (pre ++ [xc] ++ L) (wr.alloc o)) := fun o => HJ.out _ _ _ HJL.out
     have HC2 : Hid (∀ o : Obj, Cells w0 (wr.alloc o)) := fun o => (HB2.out o).cells HCW.out hlo
     clear hx1 hr1 hcw hmem hrx hpp hbd hlen
     gi_wp2_with fail
     refine (HH1.out _ _ (HC2.out _) (HS2.out _) (HJJ.out _)).mono ?_
     rintro e W3 (⟨rfl, ⟨L3, hL3, hJ3⟩, hk3⟩ | ⟨rfl, q, hq, hx3⟩)
     ·have HL3 := Lib.hid hL3; have HJ3 := Lib.hid hJ3; have HK3 := Lib.hid (HKW.out.trans ((HB2.out _).trans hk3))
      clear hL3 hJ3 hk3
      gi_wp2_with fail
      go_roundw
      case rel => exact ⟨rfl, i + 1, by go_num, by omega, HK3.out, L ++ L3, by rw [HPP.out]; simp [HL.out, HL3.out], by simpa using HJ3.out⟩
      case measure => simp [intOf]; omega
     ·have HQ := Lib.hid hq; have HX3 := Lib.hid hx3
      clear hq hx3
      gi_wp2_with fail
      go_ret
      refine .inr ⟨rfl, [xc] ++ (L ++ q), ?_, by simpa using HX3.out⟩
      obtain ⟨r, hr⟩ := HQ.out
      have h2 := exsParts_append (kids.take (i + 1)) (kids.drop (i + 1))
      rw [List.take_append_drop, HPP.out] at h2
      refine ⟨r ++ (exsParts (kids.drop (i + 1))).map Ex.sig, ?_⟩
      rw [h2]
      simp [HXS.out, Ex.sig, HL.out, ← hr]
    ·gi_wp2
     go_ret
     obtain rfl : i = kids.length := by omega
     refine .inl ⟨rfl, ⟨[xc] ++ L, ?_, by simpa using HJL.out⟩, HKW.out⟩
     simp [HXS.out, Ex.sig, HL.out]
  ·gi_wp2
   go_ret
   exact .inr ⟨rfl, [xc], by simp [HXS.out, Ex.sig], hx2⟩

set_option maxRecDepth 100000 in
set_option maxHeartbeats 2000000 in
theorem parts_stops (F : Fence) (hF : ∀ f, F.fn f) (hd : F.depth = none) (hro : F.round = none) (n lo hi B : Nat) (et : TypeId) (het : 25 ≠ et) (x : Ex) (cx : List Value) (w0 w : World) (hlo : w0.heap.size ≤ lo) (hhi : hi ≤ w.heap.size)
  (hx : RdEx w0 x cx) (hok : x.ok) (hc : Cells w0 w) (hB : w.heap[B]? = some (.cells cx.toArray 25)) :
  SeqStopsK F n Tryd.prog 41 #[.pointer (some ⟨B, 0, none⟩)] (fun c : XC => #[c.val]) (Kept lo hi et) (fun L => L.map XC.sig = (exParts x).map Ex.sig) (fun q => q.map XC.sig <+: (exParts x).map Ex.sig) (exParts x).length w := by
 intro l J Jx W hW hJ hJx hY h0
 have hw := walkInner F hF hd hro l (exParts x).length lo hi et het J Jx w0 hlo (fun pre W o h => hJ pre _ _ none h (World.grownBy_alloc W o none) (fun r e => by cases e)) (fun m pre c W hj hl => yieldAt_anyDepth hd m (hY pre c W hj hl)) x (n - 1) cx [] W hx hok (hc.trans (.of hW)) (Nat.le_trans hhi hW.size) h0 (by simp)
 obtain ⟨k, s, kids⟩ := x
 rw [RdEx] at hx
 obtain ⟨sv, rfl, hr⟩ := hx
 obtain ⟨p, c, rfl, -, -⟩ := hr.shape
 have hbw := (hW.block B (Array.getElem?_eq_some_iff.1 hB).1).trans hB
 have c0 := cell_of_block hbw 0
 have c1 := cell_of_block hbw 1
 have c2 := cell_of_block hbw 2
 simp only [List.getElem?_toArray, List.getElem?_cons_succ, List.getElem?_cons_zero] at c0 c1 c2
 have HW := Lib.hid hw
 have hdd : ∀ k : Nat, (F.depth.isSome = true → 1 ≤ k) := fun k h => by rw [hd] at h; cases h
 clear hw hJ hJx hY h0 hr hbw hB hc hW
 refine callsIn_of_wp Tryd.func41 rfl (hF _) ?_ hro
 simp only [Tryd.ntmps41, List.size_toArray, List.length_cons, List.length_nil, Nat.reduceAdd, Nat.reduceSub, Array.replicate_succ, Array.replicate_zero, List.push_toArray, List.append_toArray, List.nil_append, List.cons_append]
 gi_wp2_with fail
 refine HW.out.mono ?_
 rintro e W1 (⟨rfl, ⟨L, hL, hJ1⟩, -⟩ | ⟨rfl, q, hq, hx⟩)
 ·have HL := Lib.hid hL; have HJ1 := Lib.hid hJ1
  clear hL hJ1
  gi_wp2
  go_end0
  exact ⟨⟨_, rfl⟩, .inl ⟨L, HL.out, by simpa using HJ1.out⟩⟩
 ·have HQ := Lib.hid hq; have HX := Lib.hid hx
  clear hq hx
  gi_wp2
  go_end0
  exact ⟨⟨_, rfl⟩, .inr ⟨q, HQ.out, by simpa using HX.out⟩⟩

set_option maxHeartbeats 1000000 in
theorem parts_any (k : Int) (s : ByteArray) (p : Option Addr) (n c : Nat) (w : World) :
  Calls Tryd.prog 24 #[.agg #[.int .i64 k, .string s, .slice p n c]] w fun e w' => e = .returned (.func (.func 41) #[] #[.pointer (some ⟨w.heap.size, 0, none⟩)]) ∧ w.alloc (.cells #[.int .i64 k, .string s, .slice p n c] 25) = w' := by
 go_enter Tryd.func24, Tryd.ntmps24
 go_wp2_with fail
 go_ret
 exact ⟨rfl, rfl⟩

end Go.Proofs.YtfflpdekojlnmaaDoor
