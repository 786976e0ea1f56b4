/- The cells of a slice's k-th element. -/
import Derived.Test.YtmdkgajjekbanaaDoorTBase
namespace Go.Proofs.YtmdkgajjekbanaaDoor
open Go.RowKit

theorem cellsAt_get {w : World} {b : Nat} : ∀ {vs : List Value} {o : Nat}, cellsAt w b o vs → ∀ j v, vs[j]? = some v → w.cell? ⟨b, o + j, none⟩ = some v
  | [], _, _, j, v, h => by simp at h
  | x :: vs, o, hc, j, v, h => by
    cases j with
    | zero => simp at h; subst h; simpa using hc.1
    | succ j =>
      have := cellsAt_get hc.2 j v (by simpa using h)
      rw [show o + (j + 1) = o + 1 + j by omega]; exact this

theorem rdStrs_at {w : World} {xs : List ByteArray} {p : Option Addr} {n cap : Nat} (h : RdStrs w xs (.slice p n cap)) {k : Nat} (hk : k < xs.length) :
    ∃ b o, p = some ⟨b, o, none⟩ ∧ w.cell? ⟨b, o + k, none⟩ = some (.string xs[k]) := by
  obtain ⟨b, o, cs, hp, hr, hc⟩ := RdSl.at h hk
  subst hr
  rw [Nat.mul_one] at hc; replace hc := cellsAt_get hc
  exact ⟨b, o, hp, by simpa using hc 0 _ rfl⟩

end Go.Proofs.YtmdkgajjekbanaaDoor
