/- Which package variables are laid, with what they hold. -/
import Derived.Attr
import Derived.WalkKit
namespace Go.Proofs.YtmdkgajjekbanaaDoor
attribute [go_sem_proc] Nat.reduceAdd Nat.reduceSub Nat.reduceMul Nat.reduceLeDiff Nat.reduceEqDiff Nat.reduceLT Int.reduceToNat reduceCtorEq Int.reduceLE Int.reduceLT Int.reduceNeg Int.reduceEq Int.reduceBEq Int.reduceBNe
attribute [go_sem_proc ↓] reduceIte
/-- the variables that are laid -/ def globs (g : Nat) : Option (TypeId × Array Value) := if g = 0 then some (120, #[.int .u8 0, .int .u8 1, .int .u8 28, .int .u8 2, .int .u8 29, .int .u8 14, .int .u8 24, .int .u8 3, .int .u8 30, .int .u8 22, .int .u8 20, .int .u8 15, .int .u8 25, .int .u8 17, .int .u8 4, .int .u8 8, .int .u8 31, .int .u8 27, .int .u8 13, .int .u8 23, .int .u8 21, .int .u8 19, .int .u8 16, .int .u8 7, .int .u8 26, .int .u8 12, .int .u8 18, .int .u8 6, .int .u8 11, .int .u8 5, .int .u8 10, .int .u8 9]) else none
theorem globs_one (g : Nat) (T : TypeId) (cs : Array Value) (h : globs g = some (T, cs)) : ∀ (i : Nat) x, cs[i]? = some x → x.oneCell' = true := by
 intro i x hx
 by_cases hg : g = 0
 ·rw [globs, if_pos hg] at h
  obtain ⟨-, rfl⟩ := Prod.mk.inj (Option.some.inj h)
  have hall : ([.int .u8 0, .int .u8 1, .int .u8 28, .int .u8 2, .int .u8 29, .int .u8 14, .int .u8 24, .int .u8 3, .int .u8 30, .int .u8 22, .int .u8 20, .int .u8 15, .int .u8 25, .int .u8 17, .int .u8 4, .int .u8 8, .int .u8 31, .int .u8 27, .int .u8 13, .int .u8 23, .int .u8 21, .int .u8 19, .int .u8 16, .int .u8 7, .int .u8 26, .int .u8 12, .int .u8 18, .int .u8 6, .int .u8 11, .int .u8 5, .int .u8 10, .int .u8 9] : List Value).all (fun v => v.oneCell') = true := by rfl
  exact List.all_eq_true.1 hall x (List.mem_of_getElem? (by simpa using hx))
 ·rw [globs, if_neg hg] at h; cases h
end Go.Proofs.YtmdkgajjekbanaaDoor
