/- kinescopelaw07: how great expressions are, the example: the walks. -/
import Derived.Test.YtmdkgajjekbanaaDoorKExprC
set_option linter.unusedSimpArgs false
set_option linter.unusedVariables false
namespace Go.Proofs.YtmdkgajjekbanaaDoor
open Go.RowKit

mutual
/-- how many parts, as far as 301, so deep -/
def sX : Ex → Nat → Nat
  | .mk _ _ l, deep => if 60 < deep then 301 else sL l (deep + 1) 1
def sL : List Ex → Nat → Nat → Nat
  | [], _, n => n
  | x :: xs, d, n => if n ≤ 300 then sL xs d (n + sX x d) else n
end
theorem sL_take : ∀ (l : List Ex) (d n k : Nat) (h : k < l.length), sL (l.take k) d n ≤ 300 → sL (l.take (k + 1)) d n = sL (l.take k) d n + sX l[k] d
  | [], _, _, _, h, _ => by simp at h
  | x :: xs, d, n, 0, _, hn => by
    simp only [List.take_zero, sL] at hn ⊢
    simp [sL, hn]
  | x :: xs, d, n, k + 1, h, hn => by
    simp only [List.take_succ_cons, sL, List.getElem_cons_succ] at hn ⊢
    by_cases hc : n ≤ 300
    · rw [if_pos hc] at hn ⊢
      rw [if_pos hc]
      exact sL_take xs d _ k (by simpa using h) hn
    · rw [if_neg hc] at hn; omega
theorem sL_stop : ∀ (l : List Ex) (d n k : Nat), 300 < sL (l.take k) d n → sL l d n = sL (l.take k) d n
  | [], _, _, _, _ => by simp
  | x :: xs, d, n, 0, hn => by
    simp only [List.take_zero, sL] at hn ⊢
    rw [if_neg (by omega)]
  | x :: xs, d, n, k + 1, hn => by
    simp only [List.take_succ_cons, sL] at hn ⊢
    by_cases hc : n ≤ 300
    · rw [if_pos hc] at hn ⊢
      rw [if_pos hc]
      exact sL_stop xs d _ k hn
    · rw [if_neg hc, if_neg hc]
mutual
theorem sX_rng : ∀ (x : Ex) (d : Nat), d ≤ 61 → 1 ≤ sX x d ∧ sX x d ≤ 301 + 300 * (61 - d)
  | .mk _ _ l, d, h => by
    rw [sX]
    split
    · omega
    · have := sL_rng l (d + 1) 1 (by omega); omega
theorem sL_rng : ∀ (l : List Ex) (d n : Nat), d ≤ 61 → n ≤ sL l d n ∧ sL l d n ≤ max n (601 + 300 * (61 - d))
  | [], d, n, h => by rw [sL]; omega
  | x :: xs, d, n, h => by
    rw [sL]
    split
    · have h1 := sX_rng x d h
      have h2 := sL_rng xs d (n + sX x d) h
      omega
    · omega
end

def grN (a b : Ex) : Nat := if sX a 0 ≤ 300 then sX a 0 + sX b 0 else sX a 0
/-- more than is gone through -/
def greatB (w : List ByteArray) (a b : Ex) : Bool := decide (300 < grN a b) || decide (30 < w.length)

/-! ### what words two expressions take, in plain Lean -/
/-- parted at one of the first places -/
noncomputable def partAt (p q : List ByteArray → Bool) (w : List ByteArray) (n : Nat) : Bool := (List.range n).any (fun k => p (w.take k) && q (w.drop k))
noncomputable def moreAt (p q : List ByteArray → Bool) (w : List ByteArray) (n : Nat) : Bool := decide (w.length = 0) || (List.range n).any (fun k => decide (0 < k) && p (w.take k) && q (w.drop k))
section
variable {a b : Ex} (ha : exRight a = true) (hb : exRight b = true) (na : (exParts a).length ≤ 11) (nb : (exParts b).length ≤ 11)
include ha hb na nb
omit hb nb
end
end Go.Proofs.YtmdkgajjekbanaaDoor
