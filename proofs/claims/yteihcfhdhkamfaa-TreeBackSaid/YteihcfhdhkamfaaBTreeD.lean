/- has: is a text one of some? tree.Size. -/
import Derived.Test.YteihcfhdhkamfaaBExprA
import Derived.Test.YteihcfhdhkamfaaBSize11
import Derived.StillTailTactics
namespace Go.Proofs.Yteihcfhdhkamfaa
open Go.RowKit

theorem seqb_comm (a b : ByteArray) : seqb a b = seqb b a := by
  unfold seqb; exact Bool.eq_iff_iff.2 (by rw [beq_iff_eq, beq_iff_eq]; exact eq_comm)

set_option maxRecDepth 100000 in
set_option maxHeartbeats 2000000 in
theorem has11_any (xs : List ByteArray) (v : Value) (s : ByteArray) (w : World) (h1 : RdStrs w xs v) :
    Calls Try.prog 29 #[v, .string s] w (Ret w (.bool (hasB xs s))) := by
  obtain ⟨p, c, rfl, hc1, hc2⟩ := h1.shape
  unfold maxLen at hc2
  have H1 := Lib.hid h1; clear h1
  go_enter Try.func29, Try.ntmps29
  go_wp2_with fail
  go_loopw [5] (fun i wr => ∃ k : Nat, k ≤ xs.length ∧ i = .int .i64 k ∧ Below w.heap.size w wr ∧ ∀ j (h : j < k) (h' : j < xs.length), seqb s xs[j] = false) (fun i _ => xs.length - (intOf i).toNat)
  case atStart => exact ⟨0, Nat.zero_le _, rfl, Below.refl _ _, fun j h => by omega⟩
  case round =>
    obtain ⟨k, hk, rfl, hb, hP⟩ := hrel
    have HP := Lib.hid hP; clear hP
    by_cases hlt : k < xs.length
    · obtain ⟨b1, o1, rfl, a0⟩ := rdStrs_at (H1.out.below hb) hlt
      cases hs : seqb s xs[k]
      · have HS := Lib.hid hs
        rw [seqb_comm] at hs
        unfold seqb at hs
        go_wp2_with fail
        (try go_still (by kernel_rfl))
        go_wp2_with fail
        go_roundw
        case rel => exact ⟨k + 1, by omega, by go_num, by first | exact hb | exact hb.drew, fun j h h' => by
          by_cases e : j = k
          · subst e; exact HS.out
          · exact HP.out j (by omega) h'⟩
        case measure => simp [intOf]; omega
      · have HS := Lib.hid hs
        rw [seqb_comm] at hs
        unfold seqb at hs
        go_wp2_with fail
        (try go_still (by kernel_rfl))
        go_wp2_with fail
        go_ret
        exact ret_b rfl (by rw [hasB, eq_comm, List.any_eq_true]; exact ⟨_, List.getElem_mem _, HS.out⟩) (by first | exact hb | exact hb.drew)
    · go_wp2_with fail
      go_ret
      refine ret_b rfl ?_ hb
      rw [hasB, eq_comm, List.any_eq_false]
      intro x hx
      obtain ⟨j, hj, rfl⟩ := List.getElem_of_mem hx
      rw [HP.out j (by omega) hj]; decide

def pathParts (p : Pat) : Nat := if p.path then (exParts p.expr).length else 0
def qrySize (q : Qry) : Nat := q.pats.length + q.conds.length + q.ret.length + (q.pats.map pathParts).sum

set_option maxRecDepth 100000 in
set_option maxHeartbeats 4000000 in
theorem treeSize_any (q : Qry) (cx : List Value) (w : World) (hx : RdQry w q cx) (hq : q.ok) (hN : q.pats.length + q.conds.length + q.ret.length ≤ 1000) (hP : ∀ p, p ∈ q.pats → (exParts p.expr).length ≤ 1000) :
    Calls Try.prog 20 #[.agg cx.toArray] w (Ret w (.int .i64 (qrySize q : Nat))) := by
  obtain ⟨v1, v2, v3, r1, r2, r3, rfl⟩ := hx
  obtain ⟨p1, c1, rfl, -, -⟩ := r1.shape
  obtain ⟨p2, c2, rfl, -, -⟩ := r2.shape
  obtain ⟨p3, c3, rfl, -, -⟩ := r3.shape
  have HB := Lib.hid (fun ob => ((Below.refl w.heap.size w).alloc (Nat.le_refl _) ob))
  have HR := Lib.hid r1; have HO := Lib.hid hq.1; have HPP := Lib.hid hP
  clear r1 r2 r3 hq hP
  obtain ⟨n0, hn0⟩ : ∃ n0, n0 = q.pats.length + q.conds.length + q.ret.length := ⟨_, rfl⟩
  have hn0c : ((n0 : Nat) : Int) = (q.pats.length : Int) + q.conds.length + q.ret.length := by omega
  have hn0l : n0 ≤ 1000 := by omega
  have hpl : q.pats.length ≤ 1000 := by omega
  have hcl : q.conds.length ≤ 1000 := by omega
  have hrl : q.ret.length ≤ 1000 := by omega
  have hfin : qrySize q = n0 + (q.pats.map pathParts).sum := by rw [qrySize, hn0]
  rw [hfin]
  have HN0 := Lib.hid hn0c
  clear hn0 hn0c hfin hN
  go_enter Try.func20, Try.ntmps20
  go_wp2_with fail
  rw [← HN0.out]
  go_loopw [3, 20] (fun n i wr => ∃ j : Nat, i = .int .i64 j ∧ n = .int .i64 (n0 + ((q.pats.take j).map pathParts).sum : Nat) ∧ j ≤ q.pats.length ∧ ((q.pats.take j).map pathParts).sum ≤ 1000 * j ∧ Below w.heap.size w wr) (fun _ i _ => q.pats.length - (intOf i).toNat)
  case atStart => exact ⟨0, rfl, by simp, Nat.zero_le _, by simp, HB.out _⟩
  case round =>
    obtain ⟨j, rfl, rfl, hj, hn, hb⟩ := hrel
    have HBL := Lib.hid hb
    clear hb
    by_cases hlt : j < q.pats.length
    · obtain ⟨b1, o1, k1, s1, l1, v1, rfl, hx1, hr1, a0, a1, a2, a3, a4, a5, a6, a7⟩ := rdPats_at (rdPats_below HBL.out HR.out) hlt
      have hq1 := lt_of_cell a0
      obtain ⟨pv1, cv1, rfl, -, -⟩ := hr1.shape
      have hmem : q.pats[j] ∈ q.pats := List.getElem_mem _
      have h5 := HPP.out _ hmem
      have HC := Lib.hid (fun W (hw : Below wr.heap.size wr W) => exprSize_any q.pats[j].expr [.int .i64 k1, .string s1, .slice pv1 l1.length cv1] W (by rw [hx1, RdEx]; exact ⟨_, rfl, hr1.below hw⟩) (HO.out _ hmem).2.2.2.2 (by omega))
      have hT : ((q.pats.take (j + 1)).map pathParts).sum = ((q.pats.take j).map pathParts).sum + pathParts q.pats[j] := by
        rw [List.take_succ_eq_append_getElem hlt, List.map_append, List.sum_append, List.map_cons, List.map_nil, List.sum_cons, List.sum_nil, Nat.add_zero]
      have HT := Lib.hid hT
      have HW := Lib.hid (fun ob => ((Below.refl wr.heap.size wr).alloc (Nat.le_refl _) ob))
      clear hx1 hr1 hmem hT
      cases hpt : q.pats[j].path
      · have hpp : pathParts q.pats[j] = 0 := by simp [pathParts, hpt]
        rw [hpt] at a2
        have HPT := Lib.hid hpp; clear hpp hpt HC
        generalize hs1 : ((q.pats.take j).map pathParts).sum = n at *
        have HS1 := Lib.hid hs1; clear hs1
        go_wp2_with fail
        go_roundw
        case rel => exact ⟨j + 1, by go_num, by rw [HT.out, HPT.out]; go_num, by omega, by rw [HT.out, HPT.out]; omega, below_step HBL.out (HW.out _)⟩
        case measure => simp [intOf]; omega
      · have hpp : pathParts q.pats[j] = (exParts q.pats[j].expr).length := by simp [pathParts, hpt]
        rw [hpt] at a2
        have HPT := Lib.hid hpp; clear hpp hpt
        generalize hs1 : ((q.pats.take j).map pathParts).sum = n at *
        generalize hs2 : (exParts q.pats[j].expr).length = m at *
        have HS1 := Lib.hid hs1; clear hs1 hs2
        go_wp2_with fail
        refine (HC.out _ (HW.out _)).mono ?_
        rintro e w' ⟨rfl, hb'⟩
        go_wp2_with fail
        go_roundw
        case rel => exact ⟨j + 1, by go_num, by rw [HT.out, HPT.out]; go_num, by omega, by rw [HT.out, HPT.out]; omega, below_step HBL.out (below_step (HW.out _) hb')⟩
        case measure => simp [intOf]; omega
    · have HST : Hid (((q.pats.take j).map pathParts).sum = (q.pats.map pathParts).sum) := by show _ = _; rw [List.take_of_length_le (by omega)]
      generalize hs1 : ((q.pats.take j).map pathParts).sum = n at *
      have HS1 := Lib.hid hs1; clear hs1
      go_wp2_with fail
      go_ret
      exact ret_i rfl (by rw [HST.out]) HBL.out

end Go.Proofs.Yteihcfhdhkamfaa
