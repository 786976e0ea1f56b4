/- The functions of tree and of the statements' kit, told so: what the abstract walk takes of them. -/
import Derived.Test.YteihcfhdhkamfaaBLibT
import Derived.Test.YteihcfhdhkamfaaBAwake
import Derived.Test.YteihcfhdhkamfaaBSize11
import Derived.Test.YteihcfhdhkamfaaBTreeD
import Derived.Test.YteihcfhdhkamfaaBPlain
set_option linter.unusedSimpArgs false
set_option linter.unusedVariables false
namespace Go.Proofs.Yteihcfhdhkamfaa
open Go.RowKit

theorem treeSame_c (q r : Qry) : Call1 Try.prog 16 [.agg (encQ q), .agg (encQ r)] (.v (.bool (qrySame q r))) :=
  .of_ret (by kernel_rfl) (by simp only [wfL, AV.wf, wf_encQ, Bool.and_self]) (fun D nu w vargs h => by
    obtain ⟨x, y, rfl, hx, hy⟩ := ras_two h
    obtain ⟨cx, rfl, kx⟩ := ra_qry hx
    obtain ⟨cy, rfl, ky⟩ := ra_qry hy
    exact treeSame_any q r cx cy w kx ky)
theorem awake11_c : Call1 Try.prog 12 [] (.v (.bool true)) :=
  .of_ret (by kernel_rfl) rfl (fun D nu w vargs h => by
    obtain rfl := ras_nil h
    exact awake11_any w)
theorem size11_c (q : Qry) (hq : q.small) : Call1 Try.prog 11 [.agg (encQ q)] (.v (.int .i64 (szQ q : Nat))) :=
  .of_ret (by kernel_rfl) (by simp only [wfL, AV.wf, wf_encQ, Bool.and_self]) (fun D nu w vargs h => by
    obtain ⟨x, rfl, hx⟩ := ras_one h
    obtain ⟨cx, rfl, kx⟩ := ra_qry hx
    exact size11_any q cx w kx hq)
theorem has11_c (xs : List ByteArray) (s : ByteArray) : Call1 Try.prog 29 [strsA xs, .v (.string s)] (.v (.bool (hasB xs s))) :=
  .of_ret (by kernel_rfl) (by simp only [wfL, strsA, AV.wf, wf_encS, Bool.and_self]) (fun D nu w vargs h => by
    obtain ⟨x, y, rfl, hx, hy⟩ := ras_two h
    obtain rfl := hy.v_eq
    exact has11_any xs x s w (ra_strs hx))
theorem treeSize_c (q : Qry) (hq : q.ok) (hN : q.pats.length + q.conds.length + q.ret.length ≤ 1000) (hP : ∀ p, p ∈ q.pats → (exParts p.expr).length ≤ 1000) : Call1 Try.prog 20 [.agg (encQ q)] (.v (.int .i64 (qrySize q : Nat))) :=
  .of_ret (by kernel_rfl) (by simp only [wfL, AV.wf, wf_encQ, Bool.and_self]) (fun D nu w vargs h => by
    obtain ⟨x, rfl, hx⟩ := ras_one h
    obtain ⟨cx, rfl, kx⟩ := ra_qry hx
    exact treeSize_any q cx w kx hq hN hP)
end Go.Proofs.Yteihcfhdhkamfaa
