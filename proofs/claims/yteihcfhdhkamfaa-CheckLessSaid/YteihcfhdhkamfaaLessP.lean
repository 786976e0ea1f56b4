/- check, in plain Lean: what may be asked may be asked with less. -/
import Derived.Test.YteihcfhdhkamfaaChkP
set_option linter.unusedSimpArgs false
set_option linter.unusedVariables false
namespace Go.Proofs.Yteihcfhdhkamfaa
open Go.RowKit

theorem chkQ_known {q : Qry} (h : chkQ q = 0 ∨ chkQ q = 10) : qryRight q = true ∧ ∃ ns, nmL (onceL (vnames q.pats)) q.pats = some ns ∧ (qOps q).all (opKnown (onceL (vnames q.pats)) ns) = true := by
  unfold chkQ at h
  cases hr : qryRight q
  · rw [hr] at h; simp at h
  · rw [hr] at h
    simp only [if_true] at h
    refine ⟨rfl, ?_⟩
    cases hn : nmL (onceL (vnames q.pats)) q.pats with
    | none => rw [hn] at h; simp at h
    | some ns =>
      rw [hn] at h
      refine ⟨ns, rfl, ?_⟩
      cases ha : (qOps q).all (opKnown (onceL (vnames q.pats)) ns)
      · simp only [ha, Bool.false_eq_true, if_false] at h; simp at h
      · rfl
theorem chkQ_good {q : Qry} (h : chkQ q = 0) : q.conds.any typeBad = false := by
  obtain ⟨hr, ns, hn, ha⟩ := chkQ_known (.inl h)
  unfold chkQ at h
  rw [hr] at h
  simp only [if_true, hn, ha] at h
  cases hb : q.conds.any typeBad
  · rfl
  · rw [hb] at h; simp at h
/-- the same patterns, no more conditions, no more that is told -/
theorem chk_less {q : Qry} {cs : List Cnd} {rs : List Opd} (h : chkQ q = 0 ∨ chkQ q = 10) (hc : ∀ c, c ∈ cs → c ∈ q.conds) (hl : cs.length ≤ q.conds.length) (hr : ∀ o, o ∈ rs → o ∈ q.ret) (h1 : 1 ≤ rs.length) (h2 : rs.length ≤ q.ret.length) (hb : cs.any typeBad = false) :
    chkQ ⟨q.pats, cs, rs, q.range, q.slide⟩ = 0 := by
  obtain ⟨hq, ns, hn, ha⟩ := chkQ_known h
  have hq' : qryRight ⟨q.pats, cs, rs, q.range, q.slide⟩ = true := by
    simp only [qryRight, betw, Bool.and_eq_true, decide_eq_true_eq] at hq ⊢
    obtain ⟨⟨⟨⟨⟨⟨⟨a1, a2⟩, a3, a4⟩, a5⟩, a6⟩, a7⟩, a8⟩, a9⟩ := hq
    refine ⟨⟨⟨⟨⟨⟨⟨a1, by omega⟩, by omega, by omega⟩, a5⟩, a6⟩, a7⟩, ?_⟩, ?_⟩
    · rw [List.all_eq_true] at a8 ⊢
      exact fun c hm => a8 c (hc c hm)
    · rw [List.all_eq_true] at a9 ⊢
      exact fun o hm => a9 o (hr o hm)
  have ha' : (qOps ⟨q.pats, cs, rs, q.range, q.slide⟩).all (opKnown (onceL (vnames q.pats)) ns) = true := by
    rw [List.all_eq_true] at ha ⊢
    intro o ho
    refine ha o ?_
    simp only [qOps, List.mem_append, List.mem_flatMap] at ho ⊢
    rcases ho with ⟨c, h1, h2⟩ | ho
    · exact .inl ⟨c, hc c h1, h2⟩
    · exact .inr (hr o ho)
  unfold chkQ
  simp only [hq', hn, ha', hb, if_true, Bool.false_eq_true, if_false]
/-- a list without one of its members -/
theorem cut_mem {α : Type} {l : List α} {k : Nat} : ∀ x, x ∈ l.take k ++ l.drop (k + 1) → x ∈ l := fun x hx => by
  rcases List.mem_append.1 hx with h | h
  · exact List.mem_of_mem_take h
  · exact List.mem_of_mem_drop h
theorem cut_len {α : Type} {l : List α} {k : Nat} (h : k < l.length) : (l.take k ++ l.drop (k + 1)).length = l.length - 1 := by
  simp; omega
theorem cut_any {α : Type} {l : List α} {k : Nat} {f : α → Bool} (h : l.any f = false) : (l.take k ++ l.drop (k + 1)).any f = false := by
  rw [← Bool.not_eq_true, List.any_eq_true] at h ⊢
  rintro ⟨x, h1, h2⟩
  exact h ⟨x, cut_mem x h1, h2⟩
end Go.Proofs.Yteihcfhdhkamfaa
