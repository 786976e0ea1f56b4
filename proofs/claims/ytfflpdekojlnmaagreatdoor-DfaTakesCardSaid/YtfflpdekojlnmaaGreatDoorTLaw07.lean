/- dfa.Same. -/
import Derived.Test.YtfflpdekojlnmaaGreatDoorTDfaI
import Derived.Test.YtfflpdekojlnmaaGreatDoorTExprC
set_option linter.unusedSimpArgs false
set_option linter.unusedVariables false
namespace Go.Proofs.YtfflpdekojlnmaaGreatDoor
open Go.RowKit

structure LOk (A : ADt) : Prop extends AOk A where
 nd : A.labs.Nodup
 sz : ∀ l ∈ A.labs, l.size ≤ 20
 few : A.labs.length ≤ 24
theorem LOk.sml {A : ADt} (h : LOk A) {r : LRow} (hr : r ∈ A.rows) : (∀ p ∈ r, p.1.size ≤ maxLen ∧ p.2 < 1000000) ∧ (r.map Prod.fst).Nodup ∧ r.length ≤ 1000000 := by
 obtain ⟨h1, h2⟩ := h.row r hr
 refine ⟨fun p hp => ⟨?_, ?_⟩, h1.nodup h.nd, ?_⟩
 ·have := h.sz _ (h1.subset (List.mem_map_of_mem hp)); unfold maxLen; omega
 ·have := h2 p hp; have := h.max; omega
 ·have := h1.length_le; have := h.few; rw [List.length_map] at *; omega
def sameAt (A B : ADt) (s : Nat) : Bool := (A.ends.getD s false == B.ends.getD s false) && rowEq (A.rows.getD s []) (B.rows.getD s [])
def sameX (A B : ADt) : Bool := decide (A.rows.length = B.rows.length) && (List.range A.rows.length).all (sameAt A B)
set_option maxRecDepth 100000 in
set_option maxHeartbeats 4000000 in
theorem dsame_c {A B : ADt} (ha : LOk A) (hb : LOk B) : Call1 Tryz.prog 14 [.vp (autoV A), .vp (autoV B)] (.v (.bool (sameX A B))) := by
 have CA := dlen_c A
 have CB := dlen_c B
 have ea := ha.ends
 have am := ha.max
 have eb := hb.ends
 have CQ : ∀ s, s < A.rows.length → s < B.rows.length → Call1 Tryz.prog 43 [.mp (mRow (A.rows.getD s [])), .mp (mRow (B.rows.getD s []))] (.v (.bool (rowEq (A.rows.getD s []) (B.rows.getD s [])))) := fun s h1 h2 => by
  obtain ⟨q1, q2, q3⟩ := ha.sml (getD_mem (d := []) h1)
  obtain ⟨k1, k2, k3⟩ := hb.sml (getD_mem (d := []) h2)
  exact equal_c _ _ q1 k1 q2 k2 q3 k3
 have gE : ∀ (l : List Bool) (s : Nat), s < l.length → (l.map (fun b => [AV.v (.bool b)])).getD s [] = [.v (.bool (l.getD s false))] := fun l s h => by
  rw [List.getD_eq_getElem?_getD, List.getElem?_map, List.getElem?_eq_getElem h, List.getD_eq_getElem?_getD, List.getElem?_eq_getElem h]; rfl
 have gR : ∀ (l : List LRow) (s : Nat), s < l.length → (l.map (fun r => [AV.mp (mRow r)])).getD s [] = [.mp (mRow (l.getD s []))] := fun l s h => by
  rw [List.getD_eq_getElem?_getD, List.getElem?_map, List.getElem?_eq_getElem h, List.getD_eq_getElem?_getD, List.getElem?_eq_getElem h]; rfl
 simp only [autoV, gV, strsA, List.cons_append, List.nil_append, ea, eb] at CA CB ⊢
 generalize hrv : sameX A B = rv
 (refine Call1.enter Tryz.func14 rfl (by kernel_rfl) (by kernel_rfl) rfl (by first | rfl | (simp only [go_sem, Bool.and_self, Bool.and_true, Bool.true_and])) (by first | rfl | (simp only [go_sem, Bool.and_self, Bool.and_true, Bool.true_and])) ?_; simp only [Tryz.ntmps14, Tryz.results14, List.length_cons, List.length_nil, Nat.reduceAdd, Nat.reduceSub, List.replicate_succ, List.replicate_zero, List.cons_append, List.nil_append])
 repeat (first | (with_reducible first | refine Stp.up ?_ | refine fun (K : AK) hK => ?_ | refine wD ?_ | (refine hK _ ?_; clear hK K)) | simp only [go_sem] | with_reducible refine wA ?_ | clear hK K)
 refine ACallV.one CA ?_
 repeat (first | (with_reducible first | refine Stp.up ?_ | refine fun (K : AK) hK => ?_ | refine wD ?_ | (refine hK _ ?_; clear hK K)) | simp only [go_sem] | with_reducible refine wA ?_ | clear hK K)
 refine ACallV.one CB ?_
 repeat (first | (with_reducible first | refine Stp.up ?_ | refine fun (K : AK) hK => ?_ | refine wD ?_ | (refine hK _ ?_; clear hK K)) | simp only [go_sem] | with_reducible refine wA ?_ | clear hK K)
 refine AIf.part (fun h => ?_) (fun h => ?_)
 ·have hne : A.rows.length ≠ B.rows.length := by (try simp only [bne_iff_ne, ne_eq, bne_eq_false_iff_eq, beq_iff_eq, beq_eq_false_iff_ne, decide_eq_true_eq, decide_eq_false_iff_not, Bool.not_eq_eq_eq_not, Int.natCast_inj, Int.ofNat_lt, Int.ofNat_le] at h); omega
  have hf : rv = false := by rw [← hrv, sameX, decide_eq_false hne]; rfl
  repeat (first | (with_reducible first | refine Stp.up ?_ | refine fun (K : AK) hK => ?_ | refine wD ?_ | (refine hK _ ?_; clear hK K)) | simp only [go_sem] | with_reducible refine wA ?_ | clear hK K)
  rw [hf]
 ·have heq : A.rows.length = B.rows.length := by (try simp only [bne_iff_ne, ne_eq, bne_eq_false_iff_eq, beq_iff_eq, beq_eq_false_iff_ne, decide_eq_true_eq, decide_eq_false_iff_not, Bool.not_eq_eq_eq_not, Int.natCast_inj, Int.ofNat_lt, Int.ofNat_le] at h); omega
  have hf : (List.range A.rows.length).all (sameAt A B) = rv := by rw [← hrv, sameX, decide_eq_true heq]; rfl
  repeat (first | (with_reducible first | refine Stp.up ?_ | refine fun (K : AK) hK => ?_ | refine wD ?_ | (refine hK _ ?_; clear hK K)) | simp only [go_sem] | with_reducible refine wA ?_ | clear hK K)
  refine ACallV.one CA ?_
  repeat (first | (with_reducible first | refine Stp.up ?_ | refine fun (K : AK) hK => ?_ | refine wD ?_ | (refine hK _ ?_; clear hK K)) | simp only [go_sem] | with_reducible refine wA ?_ | clear hK K)
  refine awp_loopK (ι := Nat) 14 (fun s => [(5, .undef), (13, .v (.int .i64 s))]) (fun s => A.rows.length - s) (fun s => s ≤ A.rows.length ∧ ∀ t, t < s → sameAt A B t = true) 0 ⟨Nat.zero_le _, fun t h => absurd h (Nat.not_lt_zero t)⟩ ?_ ?_
  ·(refine wk_mk ?_ ?_ ?_ <;> simp only [frm, List.foldl_cons, List.foldl_nil, List.replicate_succ, List.replicate_zero, WkT, WkO, AV.v.injEq, Value.int.injEq, Value.bool.injEq, Value.string.injEq, AV.vec.injEq, AV.ptr.injEq, true_or, or_true, false_or, or_false, AObj.mk.injEq, forall_eq_apply_imp_iff, forall_eq, forall_eq', go_sem])
   all_goals rfl
  ·rintro s ⟨hs, hd⟩ K hK
   repeat (first | (with_reducible first | refine Stp.up ?_ | refine fun (K : AK) hK => ?_ | refine wD ?_ | (refine hK _ ?_; clear hK K)) | simp only [go_sem] | with_reducible refine wA ?_ | clear hK K)
   refine AIf.part (fun h2 => ?_) (fun h2 => ?_)
   ·have hlt : s < A.rows.length := by (try simp only [bne_iff_ne, ne_eq, bne_eq_false_iff_eq, beq_iff_eq, beq_eq_false_iff_ne, decide_eq_true_eq, decide_eq_false_iff_not, Bool.not_eq_eq_eq_not, Int.natCast_inj, Int.ofNat_lt, Int.ofNat_le] at h2); omega
    have eW := wrap_succ (k := s) (by omega)
    have g1 := gE A.ends s (by omega)
    have g2 := gE B.ends s (by omega)
    have g3 := gR A.rows s hlt
    have g4 := gR B.rows s (by omega)
    have C := CQ s hlt (by omega)
    have hsm : sameAt A B s = ((A.ends.getD s false == B.ends.getD s false) && rowEq (A.rows.getD s []) (B.rows.getD s [])) := rfl
    generalize A.ends.getD s false = e1 at *
    generalize B.ends.getD s false = e2 at *
    have hin : sameAt A B s = false → rv = false := fun hx => by
     rw [← hf, ← Bool.not_eq_true, List.all_eq_true]
     intro hall
     have := hall s (List.mem_range.2 hlt)
     rw [hx] at this; cases this
    repeat (first | (with_reducible first | refine Stp.up ?_ | refine fun (K : AK) hK => ?_ | refine wD ?_ | (refine hK _ ?_; clear hK K)) | simp only [go_sem, g1, g2, g3, g4, h2] | with_reducible refine wA ?_ | clear hK K)
    refine AIf.part (fun h3 => ?_) (fun h3 => ?_)
    ·rw [h3, Bool.true_and] at hsm
     generalize rowEq (A.rows.getD s []) (B.rows.getD s []) = e3 at *
     repeat (first | (with_reducible first | refine Stp.up ?_ | refine fun (K : AK) hK => ?_ | refine wD ?_ | (refine hK _ ?_; clear hK K)) | simp only [go_sem, g1, g2, g3, g4, h3] | with_reducible refine wA ?_ | clear hK K)
     refine ACallS.one C ?_
     repeat (first | (with_reducible first | refine Stp.up ?_ | refine fun (K : AK) hK => ?_ | refine wD ?_ | (refine hK _ ?_; clear hK K)) | simp only [go_sem, g1, g2, g3, g4, h3] | with_reducible refine wA ?_ | clear hK K)
     refine AIf.part (fun h4 => ?_) (fun h4 => ?_)
     ·rw [h4] at hsm
      repeat (first | (with_reducible first | refine Stp.up ?_ | refine fun (K : AK) hK => ?_ | refine wD ?_ | (refine hK _ ?_; clear hK K)) | simp only [go_sem, eW] | with_reducible refine wA ?_ | clear hK K)
      refine LNext.mk (s + 1) ⟨hlt, fun t ht => ?_⟩ (by omega) (by (refine wk_mk ?_ ?_ ?_ <;> simp only [frm, List.foldl_cons, List.foldl_nil, List.replicate_succ, List.replicate_zero, WkT, WkO, AV.v.injEq, Value.int.injEq, Value.bool.injEq, Value.string.injEq, AV.vec.injEq, AV.ptr.injEq, true_or, or_true, false_or, or_false, AObj.mk.injEq, forall_eq_apply_imp_iff, forall_eq, forall_eq', go_sem]))
      rcases Nat.lt_succ_iff_lt_or_eq.1 ht with q | rfl
      ·exact hd t q
      ·exact hsm
     ·rw [h4] at hsm
      repeat (first | (with_reducible first | refine Stp.up ?_ | refine fun (K : AK) hK => ?_ | refine wD ?_ | (refine hK _ ?_; clear hK K)) | simp only [go_sem] | with_reducible refine wA ?_ | clear hK K)
      rw [hin hsm]
    ·rw [h3, Bool.false_and] at hsm
     repeat (first | (with_reducible first | refine Stp.up ?_ | refine fun (K : AK) hK => ?_ | refine wD ?_ | (refine hK _ ?_; clear hK K)) | simp only [go_sem, g1, g2, g3, g4, h3] | with_reducible refine wA ?_ | clear hK K)
     rw [hin hsm]
   ·have hs' : s = A.rows.length := by (try simp only [bne_iff_ne, ne_eq, bne_eq_false_iff_eq, beq_iff_eq, beq_eq_false_iff_ne, decide_eq_true_eq, decide_eq_false_iff_not, Bool.not_eq_eq_eq_not, Int.natCast_inj, Int.ofNat_lt, Int.ofNat_le] at h2); omega
    have hf2 : rv = true := by
     rw [← hf, List.all_eq_true]
     intro t ht
     exact hd t (by rw [List.mem_range] at ht; omega)
    repeat (first | (with_reducible first | refine Stp.up ?_ | refine fun (K : AK) hK => ?_ | refine wD ?_ | (refine hK _ ?_; clear hK K)) | simp only [go_sem] | with_reducible refine wA ?_ | clear hK K)
    rw [hf2]
end Go.Proofs.YtfflpdekojlnmaaGreatDoor

namespace Go.Proofs.YtfflpdekojlnmaaGreatDoor
open Go.RowKit

theorem rise_only : ∀ {l m : List ByteArray}, Rise l → Rise m → (∀ s, s ∈ l ↔ s ∈ m) → l = m
 | [], [], _, _, _ => rfl
 | [], b :: m, _, _, h => absurd ((h b).2 (by simp)) (by simp)
 | a :: l, [], _, _, h => absurd ((h a).1 (by simp)) (by simp)
 | a :: l, b :: m, h1, h2, h => by
  rw [Rise, List.pairwise_cons] at h1 h2
  have irr : ∀ x : List UInt8, ¬ x < x := fun x => List.lt_irrefl _
  have hab : a = b := by
   rcases List.mem_cons.1 ((h a).1 (by simp)) with e | ha
   ·exact e
   ·rcases List.mem_cons.1 ((h b).2 (by simp)) with e | hb
    ·exact e.symm
    ·exact absurd (List.lt_trans (h1.1 b hb) (h2.1 a ha)) (irr _)
  subst hab
  refine congrArg _ (rise_only h1.2 h2.2 fun s => ⟨fun hs => ?_, fun hs => ?_⟩)
  ·rcases List.mem_cons.1 ((h s).1 (List.mem_cons_of_mem _ hs)) with e | q
   ·subst e; exact absurd (h1.1 _ hs) (irr _)
   ·exact q
  ·rcases List.mem_cons.1 ((h s).2 (List.mem_cons_of_mem _ hs)) with e | q
   ·subst e; exact absurd (h2.1 _ hs) (irr _)
   ·exact q
theorem labX_is {x : Ex} {l : List ByteArray} (h : Rise l) (hm : ∀ s, s ∈ labE x ↔ s ∈ l) : labX x = l := rise_only (labX_rise x) h fun s => labX_mem.trans (hm s)
def ta : ByteArray := ⟨#[97]⟩
def tb : ByteArray := ⟨#[98]⟩
def exL (s : ByteArray) : Ex := .mk 1 s []
def exA : Ex := .mk 4 ⟨#[]⟩ [.mk 2 ⟨#[]⟩ [exL ta, exL tb]]
def exB : Ex := .mk 3 ⟨#[]⟩ [exL ta, .mk 2 ⟨#[]⟩ [exL ta, .mk 4 ⟨#[]⟩ [exL ta]]]
def exC : Ex := .mk 5 ⟨#[]⟩ [exL ta]
def auA : ADt := ⟨[[(ta, 1)], [(tb, 0)]], [true, false], [ta, tb]⟩
def auB : ADt := ⟨[[(ta, 1)], [(ta, 1)]], [false, true], [ta]⟩
theorem lab_A : labX exA = [ta, tb] := labX_is (by simp [Rise, ta, tb]; decide) (fun s => by rw [show labE exA = [ta, tb] by kernel_rfl])
theorem lab_B : labX exB = [ta] := labX_is (by simp [Rise]) (fun s => by rw [show labE exB = [ta, ta, ta] by kernel_rfl]; simp)
theorem lab_C : labX exC = [ta] := labX_is (by simp [Rise]) (fun s => by rw [show labE exC = [ta] by kernel_rfl])
theorem au_A : autoM exA (labX exA) = .inl auA := by rw [lab_A]; kernel_rfl
theorem au_B : autoM exB (labX exB) = .inl auB := by rw [lab_B]; kernel_rfl
theorem au_C : autoM exC (labX exC) = .inl auB := by rw [lab_C]; kernel_rfl
end Go.Proofs.YtfflpdekojlnmaaGreatDoor

namespace Go.Proofs.YtfflpdekojlnmaaGreatDoor
open Go.RowKit

mutual
def sX : Ex → Nat → Nat
 | .mk _ _ l, deep => if 60 < deep then 301 else sL l (deep + 1) 1
def sL : List Ex → Nat → Nat → Nat
 | [], _, n => n
 | x :: xs, d, n => if n ≤ 300 then sL xs d (n + sX x d) else n
end
theorem sL_take : ∀ (l : List Ex) (d n k : Nat) (h : k < l.length), sL (l.take k) d n ≤ 300 → sL (l.take (k + 1)) d n = sL (l.take k) d n + sX l[k] d
 | [], _, _, _, h, _ => by simp at h
 | x :: xs, d, n, 0, _, hn => by
  simp only [List.take_zero, sL] at hn ⊢
  simp [sL, hn]
 | x :: xs, d, n, k + 1, h, hn => by
  simp only [List.take_succ_cons, sL, List.getElem_cons_succ] at hn ⊢
  by_cases hc : n ≤ 300
  ·rw [if_pos hc] at hn ⊢
   rw [if_pos hc]
   exact sL_take xs d _ k (by simpa using h) hn
  ·rw [if_neg hc] at hn; omega
theorem sL_stop : ∀ (l : List Ex) (d n k : Nat), 300 < sL (l.take k) d n → sL l d n = sL (l.take k) d n
 | [], _, _, _, _ => by simp
 | x :: xs, d, n, 0, hn => by
  simp only [List.take_zero, sL] at hn ⊢
  rw [if_neg (by omega)]
 | x :: xs, d, n, k + 1, hn => by
  simp only [List.take_succ_cons, sL] at hn ⊢
  by_cases hc : n ≤ 300
  ·rw [if_pos hc] at hn ⊢
   rw [if_pos hc]
   exact sL_stop xs d _ k hn
  ·rw [if_neg hc, if_neg hc]
mutual
theorem sX_rng : ∀ (x : Ex) (d : Nat), d ≤ 61 → 1 ≤ sX x d ∧ sX x d ≤ 301 + 300 * (61 - d)
 | .mk _ _ l, d, h => by
  rw [sX]
  split
  ·omega
  ·have := sL_rng l (d + 1) 1 (by omega); omega
theorem sL_rng : ∀ (l : List Ex) (d n : Nat), d ≤ 61 → n ≤ sL l d n ∧ sL l d n ≤ max n (601 + 300 * (61 - d))
 | [], d, n, h => by rw [sL]; omega
 | x :: xs, d, n, h => by
  rw [sL]
  split
  ·have h1 := sX_rng x d h
   have h2 := sL_rng xs d (n + sX x d) h
   omega
  ·omega
end

def grN (a b : Ex) : Nat := if sX a 0 ≤ 300 then sX a 0 + sX b 0 else sX a 0
def greatB (w : List ByteArray) (a b : Ex) : Bool := decide (300 < grN a b) || decide (30 < w.length)

/-! ### what words two expressions take, in plain Lean -/
noncomputable def partAt (p q : List ByteArray → Bool) (w : List ByteArray) (n : Nat) : Bool := (List.range n).any (fun k => p (w.take k) && q (w.drop k))
section
variable {a b : Ex} (ha : exRight a = true) (hb : exRight b = true) (na : (exParts a).length ≤ 11) (nb : (exParts b).length ≤ 11)
include ha hb na nb
omit hb nb
end
end Go.Proofs.YtfflpdekojlnmaaGreatDoor
