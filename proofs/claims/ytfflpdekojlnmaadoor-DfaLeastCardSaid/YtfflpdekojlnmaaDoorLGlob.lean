/- Which package variables are laid, with what they hold. -/
import Derived.Attr
import Derived.WalkKit
namespace Go.Proofs.YtfflpdekojlnmaaDoor
attribute [go_sem_proc] Nat.reduceAdd Nat.reduceSub Nat.reduceMul Nat.reduceLeDiff Nat.reduceEqDiff Nat.reduceLT Int.reduceToNat reduceCtorEq Int.reduceLE Int.reduceLT Int.reduceNeg Int.reduceEq Int.reduceBEq Int.reduceBNe
attribute [go_sem_proc ↓] reduceIte
/-- the variables that are laid -/ def globs (g : Nat) : Option (TypeId × Array Value) :=
 if g = 0 then some (142, #[.int .u8 0, .int .u8 1, .int .u8 28, .int .u8 2, .int .u8 29, .int .u8 14, .int .u8 24, .int .u8 3, .int .u8 30, .int .u8 22, .int .u8 20, .int .u8 15, .int .u8 25, .int .u8 17, .int .u8 4, .int .u8 8, .int .u8 31, .int .u8 27, .int .u8 13, .int .u8 23, .int .u8 21, .int .u8 19, .int .u8 16, .int .u8 7, .int .u8 26, .int .u8 12, .int .u8 18, .int .u8 6, .int .u8 11, .int .u8 5, .int .u8 10, .int .u8 9]) else
 if g = 1 then some (152, #[.int .u64 1, .int .u64 10, .int .u64 100, .int .u64 1000, .int .u64 10000, .int .u64 100000, .int .u64 1000000, .int .u64 10000000, .int .u64 100000000, .int .u64 1000000000, .int .u64 10000000000, .int .u64 100000000000, .int .u64 1000000000000, .int .u64 10000000000000, .int .u64 100000000000000, .int .u64 1000000000000000, .int .u64 10000000000000000, .int .u64 100000000000000000, .int .u64 1000000000000000000, .int .u64 10000000000000000000]) else
 none
theorem globs_one (g : Nat) (T : TypeId) (cs : Array Value) (h : globs g = some (T, cs)) : ∀ (i : Nat) x, cs[i]? = some x → x.oneCell' = true := by
 intro i x hx
 have key : ∀ l : Array Value, cs = l → l.toList.all (fun v => v.oneCell') = true → x.oneCell' = true := fun l e hl => List.all_eq_true.1 hl x (List.mem_of_getElem? (by subst e; simpa using hx))
 by_cases hg : g = 0
 ·rw [globs, if_pos hg] at h; exact key _ (Prod.mk.inj (Option.some.inj h)).2.symm (by rfl)
 rw [globs, if_neg hg] at h
 by_cases hg : g = 1
 ·rw [if_pos hg] at h; exact key _ (Prod.mk.inj (Option.some.inj h)).2.symm (by rfl)
 rw [if_neg hg] at h
 cases h
end Go.Proofs.YtfflpdekojlnmaaDoor
