/- The functions of tree and of the statements' kit, told so: what the abstract walk takes of them. -/
import Derived.Test.YteihcfhdhkamfaaTy
import Derived.Test.YteihcfhdhkamfaaEnc
import Derived.Test.YteihcfhdhkamfaaVerts
import Derived.Test.YteihcfhdhkamfaaAwake
import Derived.Test.YteihcfhdhkamfaaSize11
import Derived.Test.YteihcfhdhkamfaaTreeD
import Derived.Test.YteihcfhdhkamfaaTreeC
import Derived.Test.YteihcfhdhkamfaaPlain
set_option linter.unusedSimpArgs false
set_option linter.unusedVariables false
namespace Go.Proofs.Yteihcfhdhkamfaa
open Go.RowKit

theorem treeSame_c (q r : Qry) : Call1 Try.prog 16 [.agg (encQ q), .agg (encQ r)] (.v (.bool (qrySame q r))) :=
  .of_ret (by kernel_rfl) (by simp only [wfL, AV.wf, wf_encQ, Bool.and_self]) (fun D nu w vargs h => by
    obtain ⟨x, y, rfl, hx, hy⟩ := ras_two h
    obtain ⟨cx, rfl, kx⟩ := ra_qry hx
    obtain ⟨cy, rfl, ky⟩ := ra_qry hy
    exact treeSame_any q r cx cy w kx ky)
theorem sameQuery_c (q r : Qry) : Call1 Try.prog 28 [.agg (encQ q), .agg (encQ r)] (.v (.bool (qrySame q r))) :=
  .of_ret (by kernel_rfl) (by simp only [wfL, AV.wf, wf_encQ, Bool.and_self]) (fun D nu w vargs h => by
    obtain ⟨x, y, rfl, hx, hy⟩ := ras_two h
    obtain ⟨cx, rfl, kx⟩ := ra_qry hx
    obtain ⟨cy, rfl, ky⟩ := ra_qry hy
    exact sameQuery_any q r cx cy w kx ky)
theorem awake11_c : Call1 Try.prog 12 [] (.v (.bool true)) :=
  .of_ret (by kernel_rfl) rfl (fun D nu w vargs h => by
    obtain rfl := ras_nil h
    exact awake11_any w)
theorem size11_c (q : Qry) (hq : q.small) : Call1 Try.prog 11 [.agg (encQ q)] (.v (.int .i64 (szQ q : Nat))) :=
  .of_ret (by kernel_rfl) (by simp only [wfL, AV.wf, wf_encQ, Bool.and_self]) (fun D nu w vargs h => by
    obtain ⟨x, rfl, hx⟩ := ras_one h
    obtain ⟨cx, rfl, kx⟩ := ra_qry hx
    exact size11_any q cx w kx hq)
theorem treeRight_c (q : Qry) (hq : q.ok) : Call1 Try.prog 14 [.agg (encQ q)] (.v (.bool (qryRight q))) :=
  .of_ret (by kernel_rfl) (by simp only [wfL, AV.wf, wf_encQ, Bool.and_self]) (fun D nu w vargs h => by
    obtain ⟨x, rfl, hx⟩ := ras_one h
    obtain ⟨cx, rfl, kx⟩ := ra_qry hx
    exact treeRight_any q cx w kx hq)
theorem vertices_c (q : Qry) (hN : q.pats.length ≤ 400000) : Call1 Try.prog 23 [.agg (encQ q)] (strsA (onceL (vnames q.pats))) :=
  .of_strs (by kernel_rfl) (by simp only [wfL, AV.wf, wf_encQ, Bool.and_self]) (fun D nu w vargs h => by
    obtain ⟨x, rfl, hx⟩ := ras_one h
    obtain ⟨cx, rfl, kx⟩ := ra_qry hx
    exact vertices_any q cx w kx hN)
theorem edges_c (q : Qry) (hN : q.pats.length ≤ 400000) : Call1 Try.prog 25 [.agg (encQ q)] (strsA (onceL (enames q.pats))) :=
  .of_strs (by kernel_rfl) (by simp only [wfL, AV.wf, wf_encQ, Bool.and_self]) (fun D nu w vargs h => by
    obtain ⟨x, rfl, hx⟩ := ras_one h
    obtain ⟨cx, rfl, kx⟩ := ra_qry hx
    exact edges_any q cx w kx hN)
theorem has11_c (xs : List ByteArray) (s : ByteArray) : Call1 Try.prog 29 [strsA xs, .v (.string s)] (.v (.bool (hasB xs s))) :=
  .of_ret (by kernel_rfl) (by simp only [wfL, strsA, AV.wf, wf_encS, Bool.and_self]) (fun D nu w vargs h => by
    obtain ⟨x, y, rfl, hx, hy⟩ := ras_two h
    obtain rfl := hy.v_eq
    exact has11_any xs x s w (ra_strs hx))
/-- the first k of some texts -/
theorem has11_cut (xs : List ByteArray) (k : Nat) (hk : k ≤ xs.length) (s : ByteArray) : Call1 Try.prog 29 [.slc 1 (xs.map encS) k, .v (.string s)] (.v (.bool (hasB (xs.take k) s))) :=
  (has11_c (xs.take k) s).args (by simp only [wfL, AV.wf, wf_encS, Bool.and_self]) (fun D nu w vargs h => by
    obtain ⟨x, y, rfl, hx, hy⟩ := ras_two h
    have := hx.cut (Nat.le_refl k)
    rw [← List.map_take] at this
    refine ⟨rfl, fun i c v h1 h2 => ?_⟩
    match i, h1, h2 with
    | 0, h1, h2 => cases h1; cases h2; unfold strsA; rw [List.length_take, Nat.min_eq_left hk]; exact this
    | 1, h1, h2 => cases h1; cases h2; exact hy
    | i + 2, h1, h2 => simp at h1)
theorem sameTexts_c (xs ys : List ByteArray) : Call1 Try.prog 22 [strsA xs, strsA ys] (.v (.bool (all2 seqb xs ys))) :=
  .of_ret (by kernel_rfl) (by simp only [wfL, strsA, AV.wf, wf_encS, Bool.and_self]) (fun D nu w vargs h => by
    obtain ⟨x, y, rfl, hx, hy⟩ := ras_two h
    exact sameTexts_any xs ys x y w (ra_strs hx) (ra_strs hy))
theorem treeSize_c (q : Qry) (hq : q.ok) (hN : q.pats.length + q.conds.length + q.ret.length ≤ 1000) (hP : ∀ p, p ∈ q.pats → (exParts p.expr).length ≤ 1000) : Call1 Try.prog 20 [.agg (encQ q)] (.v (.int .i64 (qrySize q : Nat))) :=
  .of_ret (by kernel_rfl) (by simp only [wfL, AV.wf, wf_encQ, Bool.and_self]) (fun D nu w vargs h => by
    obtain ⟨x, rfl, hx⟩ := ras_one h
    obtain ⟨cx, rfl, kx⟩ := ra_qry hx
    exact treeSize_any q cx w kx hq hN hP)
end Go.Proofs.Yteihcfhdhkamfaa
