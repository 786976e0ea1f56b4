/- Ways that part come together again: behind a region, or a piece of code, all is told by one state. -/
import Derived.Test.YtokoneddljheaaaXAbsW
set_option linter.unusedSimpArgs false
set_option linter.unusedVariables false
namespace Go.Proofs.Ytokoneddljheaaa
open Go.RowKit

section
variable {P : Program}
theorem asem_join {n0 : Nat} {c : Code} {s : AS} {Q : AExit → AS → Prop} (s0 : AS) (hok : okCode c = true) (h : AWp P n0 c s (fun e s' => e = .normal ∧ Wk n0 s' s0)) (k : Q .normal s0) : ASem P n0 c s Q := fun f m D nu a w hZr hn hm hs hmx R hO hR => by
  refine awp_good hmx m hZr hn c hok s a w D nu f.Z _ R hO hm hs h ?_
  rintro e D' Z' s' a' w' nu' h1 h2 ⟨rfl, hk⟩
  refine hR .normal D' Z' s0 a' w' nu' ?_ (wk_good hk h2) k
  rw [← hk.y]
  exact m.step h1 h2.ro hk.monoZ (wk_good hk h2).ro (fun c v hr hc => hk.ra hr hc) (fun _ h => .inl h) (fun _ h => .inl h) (fun b hb => ⟨((m.zlt h1).1 b hb).1, ((m.zlt h1).1 b hb).2, .inl hb⟩) (Nat.le_trans hn hk.n)
theorem awp_join {n0 id : Nat} {s : AS} {ops : Array Oper} {d : Bool} {Q : AExit → AS → Prop} (s0 : AS) (hok : calmB ops = true) (h : AWp P n0 (.region id ops d) s (fun e s' => e = .normal ∧ Wk n0 s' s0)) (k : Q .normal s0) : AWp P n0 (.region id ops d) s Q := by
  have := asem_join (c := .region id ops d) s0 hok h k
  cases d
  · exact .inr this
  · exact .inr this
end
end Go.Proofs.Ytokoneddljheaaa
