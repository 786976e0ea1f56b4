/- kinescopelaw11.exprSize, kinescopelaw11.size: how many parts a query has, as far as 401. -/
import Derived.Test.YtldnlbcibmmbbaaProg
import Derived.Test.YtldnlbcibmmbbaaRBase2
import Derived.Test.YtldnlbcibmmbbaaRExprA
import Derived.StillTailTactics
namespace Go.Proofs.Ytldnlbcibmmbbaa
open Go.RowKit

def ExprSizeC11 (x : Ex) : Prop := ∀ (deep : Nat) (cx : List Value) (w : World), RdEx w x cx → deep ≤ 61 → Calls Try.prog 14 #[.agg cx.toArray, .int .i64 deep] w (Ret w (.int .i64 (szE x deep : Nat)))

theorem szL_take11 : ∀ (l : List Ex) (deep n k : Nat) (h : k < l.length), szL (l.take k) deep n ≤ 400 → szL (l.take (k + 1)) deep n = szL (l.take k) deep n + szE l[k] deep
 | [], _, _, _, h, _ => by simp at h
 | x :: xs, deep, n, 0, _, hn => by
  simp only [List.take_zero, szL] at hn ⊢
  simp [szL, hn]
 | x :: xs, deep, n, k + 1, h, hn => by
  simp only [List.take_succ_cons, szL, List.getElem_cons_succ] at hn ⊢
  by_cases hc : n ≤ 400
  ·rw [if_pos hc] at hn ⊢
   rw [if_pos hc]
   exact szL_take11 xs deep _ k (by simpa using h) hn
  ·rw [if_neg hc] at hn; omega
theorem szL_stop11 : ∀ (l : List Ex) (deep n k : Nat), 400 < szL (l.take k) deep n → szL l deep n = szL (l.take k) deep n
 | [], _, _, _, _ => by simp
 | x :: xs, deep, n, 0, hn => by
  simp only [List.take_zero, szL] at hn ⊢
  rw [if_neg (by omega)]
 | x :: xs, deep, n, k + 1, hn => by
  simp only [List.take_succ_cons, szL] at hn ⊢
  by_cases hc : n ≤ 400
  ·rw [if_pos hc] at hn ⊢
   rw [if_pos hc]
   exact szL_stop11 xs deep _ k hn
  ·rw [if_neg hc, if_neg hc]

set_option maxRecDepth 100000 in
set_option maxHeartbeats 4000000 in
theorem exprSize11_any (x : Ex) : ExprSizeC11 x := by
 induction x using Ex.ind with
 | h k s l ih =>
  intro deep cx w hx hdeep
  rw [RdEx] at hx
  obtain ⟨sv, rfl, hr⟩ := hx
  obtain ⟨p, c, rfl, hc1, hc2⟩ := hr.shape
  unfold maxLen at hc2
  rw [szE]
  have HB := Lib.hid (fun ob => ((Below.refl w.heap.size w).alloc (Nat.le_refl _) ob))
  by_cases hd : 60 < deep
  ·rw [if_pos hd]
   clear ih hr
   go_enter Try.func14, Try.ntmps14
   go_wp2_with fail
   go_ret
   exact ret_i rfl rfl (HB.out _)
  ·rw [if_neg hd]
   have HX := Lib.hid ih; have HR := Lib.hid hr; have HD := Lib.hid hd
   have hd' : deep ≤ 60 := by omega
   have hbox0 : (w.alloc (.cells #[.int .i64 k, .string s, .slice p l.length c] 43)).heap[w.heap.size]? = _ := heap_new w _
   have HBX := Lib.hid hbox0
   clear ih hr hd hbox0
   go_enter Try.func14, Try.ntmps14
   go_wp2_with fail
   go_loopw [5, 6] (fun n i wr => ∃ j : Nat, i = .int .i64 j ∧ n = .int .i64 (szL (l.take j) (deep + 1) 1 : Nat) ∧ j ≤ l.length ∧ szL (l.take j) (deep + 1) 1 ≤ 30000 ∧ Below w.heap.size w wr ∧ wr.heap[w.heap.size]? = some (.cells #[.int .i64 k, .string s, .slice p l.length c] 43)) (fun _ i _ => l.length - (intOf i).toNat)
   case atStart => exact ⟨0, rfl, by simp [szL], Nat.zero_le _, by simp [szL], HB.out _, HBX.out⟩
   case round =>
    obtain ⟨j, rfl, rfl, hj, hn, hb, hbx⟩ := hrel
    have hc0 := cell_of_block2 hbx 2
    simp only [List.getElem?_toArray, List.getElem?_cons_succ, List.getElem?_cons_zero] at hc0
    have HBL := Lib.hid hb; have HBX2 := Lib.hid hbx
    clear hb hbx
    by_cases hlt : j < l.length
    ·by_cases h4 : szL (l.take j) (deep + 1) 1 ≤ 400
     ·obtain ⟨b1, o1, k1, s1, l1, v1, rfl, hx1, hr1, a0, a1, a2⟩ := (HR.out.below HBL.out).at hlt
      have HC := Lib.hid (HX.out l[j] (List.getElem_mem _) (deep + 1) [.int .i64 k1, .string s1, v1] wr (by rw [hx1, RdEx]; exact ⟨v1, rfl, hr1⟩) (by omega))
      obtain ⟨h5, _⟩ := szE_spec l[j] (deep + 1) (by omega)
      have HT := Lib.hid (szL_take11 l (deep + 1) 1 j hlt h4)
      have h6 : szE l[j] (deep + 1) ≤ 25000 := by omega
      clear hx1 hr1 h5
      generalize hs1 : szL (l.take j) (deep + 1) 1 = n at *
      generalize hs2 : szE l[j] (deep + 1) = m at *
      have HS1 := Lib.hid hs1; clear hs1 hs2
      go_wp2_with fail
      refine HC.out.mono ?_
      rintro e w' ⟨rfl, hb'⟩
      go_wp2_with fail
      go_roundw
      case rel => exact ⟨j + 1, by go_num, by rw [HT.out]; go_num, by omega, by rw [HT.out]; omega, below_step HBL.out hb', (hb'.block _ (Array.getElem?_eq_some_iff.1 HBX2.out).1).trans HBX2.out⟩
      case measure => simp [intOf]; omega
     ·have HST := Lib.hid (szL_stop11 l (deep + 1) 1 j (by omega))
      generalize hs1 : szL (l.take j) (deep + 1) 1 = n at *
      have HS1 := Lib.hid hs1; clear hs1
      go_wp2_with fail
      go_ret
      exact ret_i rfl (by rw [HST.out]) HBL.out
    ·have HST : Hid (szL (l.take j) (deep + 1) 1 = szL l (deep + 1) 1) := by show _ = _; rw [List.take_of_length_le (by omega)]
     generalize hs1 : szL (l.take j) (deep + 1) 1 = n at *
     have HS1 := Lib.hid hs1; clear hs1
     go_wp2_with fail
     go_ret
     exact ret_i rfl (by rw [HST.out]) HBL.out

theorem szP_take11 : ∀ (l : List Pat) (n k : Nat) (h : k < l.length), szP (l.take k) n ≤ 400 → szP (l.take (k + 1)) n = szP (l.take k) n + szE l[k].expr 0
 | [], _, _, h, _ => by simp at h
 | x :: xs, n, 0, _, hn => by
  simp only [List.take_zero, szP] at hn ⊢
  simp [szP, hn]
 | x :: xs, n, k + 1, h, hn => by
  simp only [List.take_succ_cons, szP, List.getElem_cons_succ] at hn ⊢
  by_cases hc : n ≤ 400
  ·rw [if_pos hc] at hn ⊢
   rw [if_pos hc]
   exact szP_take11 xs _ k (by simpa using h) hn
  ·rw [if_neg hc] at hn; omega
theorem szP_stop11 : ∀ (l : List Pat) (n k : Nat), 400 < szP (l.take k) n → szP l n = szP (l.take k) n
 | [], _, _, _ => by simp
 | x :: xs, n, 0, hn => by
  simp only [List.take_zero, szP] at hn ⊢
  rw [if_neg (by omega)]
 | x :: xs, n, k + 1, hn => by
  simp only [List.take_succ_cons, szP] at hn ⊢
  by_cases hc : n ≤ 400
  ·rw [if_pos hc] at hn ⊢
   rw [if_pos hc]
   exact szP_stop11 xs _ k hn
  ·rw [if_neg hc, if_neg hc]

set_option maxRecDepth 100000 in
set_option maxHeartbeats 4000000 in
theorem size11_any (q : Qry) (cx : List Value) (w : World) (hx : RdQry w q cx) (hq : q.small) : Calls Try.prog 4 #[.agg cx.toArray] w (Ret w (.int .i64 (szQ q : Nat))) := by
 obtain ⟨v1, v2, v3, r1, r2, r3, rfl⟩ := hx
 obtain ⟨q1, q2, q3⟩ := hq
 obtain ⟨p1, c1, rfl, -, -⟩ := r1.shape
 obtain ⟨p2, c2, rfl, -, -⟩ := r2.shape
 obtain ⟨p3, c3, rfl, -, -⟩ := r3.shape
 unfold szQ
 have HB := Lib.hid (fun ob => ((Below.refl w.heap.size w).alloc (Nat.le_refl _) ob))
 have HR := Lib.hid r1
 have hbox0 : (w.alloc (.cells #[.slice p1 q.pats.length c1, .slice p2 q.conds.length c2, .slice p3 q.ret.length c3, .int .i64 q.range, .int .i64 q.slide] 26)).heap[w.heap.size]? = _ := heap_new w _
 have HBX := Lib.hid hbox0
 clear r1 r2 r3 hbox0
 obtain ⟨n0, hn0⟩ : ∃ n0, n0 = q.pats.length + q.conds.length + q.ret.length := ⟨_, rfl⟩
 rw [← hn0]
 have hn0c : ((n0 : Nat) : Int) = (q.pats.length : Int) + q.conds.length + q.ret.length := by omega
 have hn0l : n0 ≤ 500000000000000 := by omega
 have HN0 := Lib.hid hn0c
 clear hn0 hn0c
 go_enter Try.func4, Try.ntmps4
 go_wp2_with fail
 rw [← HN0.out]
 go_loopw [3, 4] (fun n i wr => ∃ j : Nat, i = .int .i64 j ∧ n = .int .i64 (szP (q.pats.take j) n0 : Nat) ∧ j ≤ q.pats.length ∧ szP (q.pats.take j) n0 ≤ 600000000000000 ∧ Below w.heap.size w wr ∧ wr.heap[w.heap.size]? = some (.cells #[.slice p1 q.pats.length c1, .slice p2 q.conds.length c2, .slice p3 q.ret.length c3, .int .i64 q.range, .int .i64 q.slide] 26)) (fun _ i _ => q.pats.length - (intOf i).toNat)
 case atStart => exact ⟨0, rfl, by simp [szP], Nat.zero_le _, by simp [szP]; omega, HB.out _, HBX.out⟩
 case round =>
  obtain ⟨j, rfl, rfl, hj, hn, hb, hbx⟩ := hrel
  have hc0 := cell_of_block2 hbx 0
  simp only [List.getElem?_toArray, List.getElem?_cons_zero] at hc0
  have HBL := Lib.hid hb; have HBX2 := Lib.hid hbx
  clear hb hbx
  by_cases hlt : j < q.pats.length
  ·by_cases h4 : szP (q.pats.take j) n0 ≤ 400
   ·obtain ⟨b1, o1, k1, s1, l1, v1, rfl, hx1, hr1, a0, a1, a2, a3, a4, a5, a6, a7⟩ := rdPats_at (rdPats_below HBL.out HR.out) hlt
    have HC := Lib.hid (exprSize11_any q.pats[j].expr 0 [.int .i64 k1, .string s1, v1] wr (by rw [hx1, RdEx]; exact ⟨v1, rfl, hr1⟩) (by omega))
    obtain ⟨h5, _⟩ := szE_spec q.pats[j].expr 0 (by omega)
    have HT := Lib.hid (szP_take11 q.pats n0 j hlt h4)
    have h6 : szE q.pats[j].expr 0 ≤ 25000 := by omega
    clear hx1 hr1 h5
    generalize hs1 : szP (q.pats.take j) n0 = n at *
    generalize hs2 : szE q.pats[j].expr 0 = m at *
    have HS1 := Lib.hid hs1; clear hs1 hs2
    go_wp2_with fail
    refine HC.out.mono ?_
    rintro e w' ⟨rfl, hb'⟩
    go_wp2_with fail
    go_roundw
    case rel => exact ⟨j + 1, by go_num, by rw [HT.out]; go_num, by omega, by rw [HT.out]; omega, below_step HBL.out hb', (hb'.block _ (Array.getElem?_eq_some_iff.1 HBX2.out).1).trans HBX2.out⟩
    case measure => simp [intOf]; omega
   ·have HST := Lib.hid (szP_stop11 q.pats n0 j (by omega))
    generalize hs1 : szP (q.pats.take j) n0 = n at *
    have HS1 := Lib.hid hs1; clear hs1
    go_wp2_with fail
    go_ret
    exact ret_i rfl (by rw [HST.out]) HBL.out
  ·have HST : Hid (szP (q.pats.take j) n0 = szP q.pats n0) := by show _ = _; rw [List.take_of_length_le (by omega)]
   generalize hs1 : szP (q.pats.take j) n0 = n at *
   have HS1 := Lib.hid hs1; clear hs1
   go_wp2_with fail
   go_ret
   exact ret_i rfl (by rw [HST.out]) HBL.out

end Go.Proofs.Ytldnlbcibmmbbaa

namespace Go.Proofs.Ytldnlbcibmmbbaa
open Go.RowKit

def pathParts (p : Pat) : Nat := if p.path then (exParts p.expr).length else 0
def qrySize (q : Qry) : Nat := q.pats.length + q.conds.length + q.ret.length + (q.pats.map pathParts).sum

set_option maxRecDepth 100000 in
set_option maxHeartbeats 4000000 in
theorem treeSize_any (q : Qry) (cx : List Value) (w : World) (hx : RdQry w q cx) (hq : q.ok) (hN : q.pats.length + q.conds.length + q.ret.length ≤ 1000) (hP : ∀ p, p ∈ q.pats → (exParts p.expr).length ≤ 1000) :
  Calls Try.prog 20 #[.agg cx.toArray] w (Ret w (.int .i64 (qrySize q : Nat))) := by
 obtain ⟨v1, v2, v3, r1, r2, r3, rfl⟩ := hx
 obtain ⟨p1, c1, rfl, -, -⟩ := r1.shape
 obtain ⟨p2, c2, rfl, -, -⟩ := r2.shape
 obtain ⟨p3, c3, rfl, -, -⟩ := r3.shape
 have HB := Lib.hid (fun ob => ((Below.refl w.heap.size w).alloc (Nat.le_refl _) ob))
 have HR := Lib.hid r1; have HO := Lib.hid hq.1; have HPP := Lib.hid hP
 clear r1 r2 r3 hq hP
 obtain ⟨n0, hn0⟩ : ∃ n0, n0 = q.pats.length + q.conds.length + q.ret.length := ⟨_, rfl⟩
 have hn0c : ((n0 : Nat) : Int) = (q.pats.length : Int) + q.conds.length + q.ret.length := by omega
 have hn0l : n0 ≤ 1000 := by omega
 have hpl : q.pats.length ≤ 1000 := by omega
 have hcl : q.conds.length ≤ 1000 := by omega
 have hrl : q.ret.length ≤ 1000 := by omega
 have hfin : qrySize q = n0 + (q.pats.map pathParts).sum := by rw [qrySize, hn0]
 rw [hfin]
 have HN0 := Lib.hid hn0c
 clear hn0 hn0c hfin hN
 go_enter Try.func20, Try.ntmps20
 go_wp2_with fail
 rw [← HN0.out]
 go_loopw [3, 20] (fun n i wr => ∃ j : Nat, i = .int .i64 j ∧ n = .int .i64 (n0 + ((q.pats.take j).map pathParts).sum : Nat) ∧ j ≤ q.pats.length ∧ ((q.pats.take j).map pathParts).sum ≤ 1000 * j ∧ Below w.heap.size w wr) (fun _ i _ => q.pats.length - (intOf i).toNat)
 case atStart => exact ⟨0, rfl, by simp, Nat.zero_le _, by simp, HB.out _⟩
 case round =>
  obtain ⟨j, rfl, rfl, hj, hn, hb⟩ := hrel
  have HBL := Lib.hid hb
  clear hb
  by_cases hlt : j < q.pats.length
  ·obtain ⟨b1, o1, k1, s1, l1, v1, rfl, hx1, hr1, a0, a1, a2, a3, a4, a5, a6, a7⟩ := rdPats_at (rdPats_below HBL.out HR.out) hlt
   have hq1 := lt_of_cell a0
   obtain ⟨pv1, cv1, rfl, -, -⟩ := hr1.shape
   have hmem : q.pats[j] ∈ q.pats := List.getElem_mem _
   have h5 := HPP.out _ hmem
   have HC := Lib.hid (fun W (hw : Below wr.heap.size wr W) => exprSize_any q.pats[j].expr [.int .i64 k1, .string s1, .slice pv1 l1.length cv1] W (by rw [hx1, RdEx]; exact ⟨_, rfl, hr1.below hw⟩) (HO.out _ hmem).2.2.2.2 (by omega))
   have hT : ((q.pats.take (j + 1)).map pathParts).sum = ((q.pats.take j).map pathParts).sum + pathParts q.pats[j] := by
    rw [List.take_succ_eq_append_getElem hlt, List.map_append, List.sum_append, List.map_cons, List.map_nil, List.sum_cons, List.sum_nil, Nat.add_zero]
   have HT := Lib.hid hT
   have HW := Lib.hid (fun ob => ((Below.refl wr.heap.size wr).alloc (Nat.le_refl _) ob))
   clear hx1 hr1 hmem hT
   cases hpt : q.pats[j].path
   ·have hpp : pathParts q.pats[j] = 0 := by simp [pathParts, hpt]
    rw [hpt] at a2
    have HPT := Lib.hid hpp; clear hpp hpt HC
    generalize hs1 : ((q.pats.take j).map pathParts).sum = n at *
    have HS1 := Lib.hid hs1; clear hs1
    go_wp2_with fail
    go_roundw
    case rel => exact ⟨j + 1, by go_num, by rw [HT.out, HPT.out]; go_num, by omega, by rw [HT.out, HPT.out]; omega, below_step HBL.out (HW.out _)⟩
    case measure => simp [intOf]; omega
   ·have hpp : pathParts q.pats[j] = (exParts q.pats[j].expr).length := by simp [pathParts, hpt]
    rw [hpt] at a2
    have HPT := Lib.hid hpp; clear hpp hpt
    generalize hs1 : ((q.pats.take j).map pathParts).sum = n at *
    generalize hs2 : (exParts q.pats[j].expr).length = m at *
    have HS1 := Lib.hid hs1; clear hs1 hs2
    go_wp2_with fail
    refine (HC.out _ (HW.out _)).mono ?_
    rintro e w' ⟨rfl, hb'⟩
    go_wp2_with fail
    go_roundw
    case rel => exact ⟨j + 1, by go_num, by rw [HT.out, HPT.out]; go_num, by omega, by rw [HT.out, HPT.out]; omega, below_step HBL.out (below_step (HW.out _) hb')⟩
    case measure => simp [intOf]; omega
  ·have HST : Hid (((q.pats.take j).map pathParts).sum = (q.pats.map pathParts).sum) := by show _ = _; rw [List.take_of_length_le (by omega)]
   generalize hs1 : ((q.pats.take j).map pathParts).sum = n at *
   have HS1 := Lib.hid hs1; clear hs1
   go_wp2_with fail
   go_ret
   exact ret_i rfl (by rw [HST.out]) HBL.out

end Go.Proofs.Ytldnlbcibmmbbaa
