/- The functions of tree and of the statements' kit, told so: what the abstract walk takes of them: Right, Vertices, Edges; texts compared. -/
import Derived.Test.YtokoneddljheaaaATy
import Derived.Test.YtokoneddljheaaaAEnc
import Derived.Test.YtokoneddljheaaaAVerts
import Derived.Test.YtokoneddljheaaaATreeC
import Derived.Test.YtokoneddljheaaaASame
set_option linter.unusedSimpArgs false
set_option linter.unusedVariables false
namespace Go.Proofs.Ytokoneddljheaaa
open Go.RowKit

theorem treeRight_c (q : Qry) (hq : q.ok) : Call1 Try.prog 28 [.agg (encQ q)] (.v (.bool (qryRight q))) :=
  .of_ret (by kernel_rfl) (by simp only [wfL, AV.wf, wf_encQ, Bool.and_self]) (fun D nu w vargs h => by
    obtain ⟨x, rfl, hx⟩ := ras_one h
    obtain ⟨cx, rfl, kx⟩ := ra_qry hx
    exact treeRight_any q cx w kx hq)
theorem vertices_c (q : Qry) (hN : q.pats.length ≤ 400000) : Call1 Try.prog 78 [.agg (encQ q)] (strsA (onceL (vnames q.pats))) :=
  .of_strs (by kernel_rfl) (by simp only [wfL, AV.wf, wf_encQ, Bool.and_self]) (fun D nu w vargs h => by
    obtain ⟨x, rfl, hx⟩ := ras_one h
    obtain ⟨cx, rfl, kx⟩ := ra_qry hx
    exact vertices_any q cx w kx hN)

end Go.Proofs.Ytokoneddljheaaa
