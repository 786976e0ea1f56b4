/- tree.once of any iterator; slices.Values; slices.Index, Contains, told so; a nil slice in a box, seen as an own row without elements. -/
import Derived.Test.YtokoneddljheaaaAAbsV
import Derived.Test.YtokoneddljheaaaALibT
set_option linter.unusedSimpArgs false
set_option linter.unusedVariables false
namespace Go.Proofs.Ytokoneddljheaaa
open Go.RowKit

section
variable {P : Program}
/-- a nil slice in an own object, seen as an own row without elements -/
theorem turn_cell {s : AS} {k i j : Nat} {ob : AObj} {row : List AV} (T' : TypeId) (z' : Nat) (hz' : 0 < z') (hk : s.o[k]? = some (some ob)) (hz : 0 < ob.z) (hr : ob.rows[i]? = some row) (hj : row[j]? = some (.v (.slice none 0 0))) :
    Turn s (AS.mk s.t ((s.o ++ [some (AObj.mk T' z' true [])]).set k (some { ob with rows := ob.rows.set i (row.set j (.vec s.o.length 0)) })) s.y) := by
  intro f D nu a w hs
  have hv : ∀ b, blkM (Value.slice none 0 0) = some b → w.heap.size ≤ b := fun b e => by cases e
  have hp := push_mono (nu := nu) (o := s.o) (ob := ⟨T', z', true, []⟩) (Below.refl w.heap.size w) hv
  have hro := push_RO (ob := ⟨T', z', true, []⟩) hs.ro (Below.refl _ _) hv (.inl ⟨rfl, rfl, rfl⟩)
  have hlt := (List.getElem?_eq_some_iff.1 hk).1
  have hk' : (s.o ++ [some (⟨T', z', true, []⟩ : AObj)])[k]? = some (some ob) := by rw [List.getElem?_append_left hlt]; exact hk
  have hh : ob.hl = ({ ob with rows := ob.rows.set i (row.set j (.vec s.o.length 0)) } : AObj).hl := by simp [AObj.hl]
  obtain ⟨g, cur, hb⟩ : ∃ g cur, ROb D (updN nu s.o.length (.slice none 0 0)) (s.o ++ [some ⟨T', z', true, []⟩]) w k ob g cur := by
    rcases hro.obj k ob hk' with ⟨_, e, _⟩ | h | ⟨g, es, cl, hm⟩
    · rw [e] at hr; simp at hr
    · exact h
    · have := hm.z; omega
  have hm := set_mono (nu := updN nu s.o.length (.slice none 0 0)) (o := s.o ++ [some ⟨T', z', true, []⟩]) (w := w) (w' := w) (ob' := { ob with rows := ob.rows.set i (row.set j (.vec s.o.length 0)) }) hk' hh.symm hb.blkEq rfl rfl rfl rfl (fun _ _ => rfl)
  refine ⟨updN nu s.o.length (.slice none 0 0), hp.trans hm, rfl, ?_, (hs.tm.mono hp (fun _ _ h => h)).mono hm (fun _ _ h => h), hs.dfr⟩
  have hil := (List.getElem?_eq_some_iff.1 hr).1
  have hjl := (List.getElem?_eq_some_iff.1 hj).1
  have key : ∀ (i' j' : Nat) r c, (ob.rows.set i (row.set j (.vec s.o.length 0)))[i']? = some r → r[j']? = some c → ∃ r0 c0, ob.rows[i']? = some r0 ∧ r0[j']? = some c0 ∧ (c = c0 ∨ (c = .vec s.o.length 0 ∧ c0 = .v (.slice none 0 0))) := by
    intro i' j' r c h1 h2
    by_cases hi : i = i'
    · subst hi
      rw [List.getElem?_set_self hil] at h1; cases h1
      by_cases hj' : j = j'
      · subst hj'
        rw [List.getElem?_set_self hjl] at h2; cases h2
        exact ⟨row, _, hr, hj, .inr ⟨rfl, rfl⟩⟩
      · rw [List.getElem?_set_ne hj'] at h2
        exact ⟨row, c, hr, h2, .inl rfl⟩
    · rw [List.getElem?_set_ne hi] at h1
      exact ⟨r, c, h1, h2, .inl rfl⟩
  refine set_RO hro hk' hh.symm hb.blkEq hm (fun _ _ => rfl) (cur := cur) ⟨hb.blk, hb.dom, fun hv' => ?_, fun hv' => ?_, hb.z, fun i' r hi' => ?_, fun i' j' r c x h1 h2 h3 => ?_, fun i' j' r c x h1 h2 h3 => ?_⟩
  · obtain ⟨q1, q2, q3⟩ := hb.box hv'
    exact ⟨q1, by simpa using q2, q3⟩
  · obtain ⟨cap, q1, q2, q3, q4⟩ := hb.vec hv'
    exact ⟨cap, by simpa using q1, by simpa using q2, q3, q4⟩
  · by_cases hi : i = i'
    · subst hi
      rw [List.getElem?_set_self hil] at hi'; cases hi'
      rw [List.length_set]; exact hb.row i row hr
    · rw [List.getElem?_set_ne hi] at hi'
      exact hb.row i' r hi'
  · obtain ⟨r0, c0, k1, k2, e⟩ := key i' j' r c h1 h2
    have h0 := hb.cell i' j' r0 c0 x k1 k2 h3
    rcases e with rfl | ⟨rfl, rfl⟩
    · exact h0.mono hm (fun _ _ h => h)
    · obtain rfl := h0.v_eq
      have := RA.vec (D := D) (nu := updN nu s.o.length (.slice none 0 0)) (o := (s.o ++ [some (⟨T', z', true, []⟩ : AObj)])) (w := w) s.o.length 0 ⟨_, List.getElem?_concat_length, fun x hx => Nat.zero_le _⟩ (by rw [updN_new]; rfl)
      rw [updN_new] at this
      exact this.mono hm (fun _ _ h => h)
  · obtain ⟨r0, c0, k1, k2, _⟩ := key i' j' r c h1 h2
    exact hb.one i' j' r0 c0 x k1 k2 h3
end

theorem contains_c (xs : List ByteArray) (s : ByteArray) : Call1 Try.prog 36 [strsA xs, .v (.string s)] (.v (.bool (hasB xs s))) :=
  .of_ret (by kernel_rfl) (by simp only [wfL, strsA, AV.wf, wf_encS, Bool.and_self]) (fun D nu w vargs h => by
    obtain ⟨x, y, rfl, hx, hy⟩ := ras_two h
    obtain rfl := hy.v_eq
    exact (contains_any xs x s w (ra_strs hx)).mono (fun e w' ⟨h1, h2⟩ => ⟨h1, h2 ▸ Below.refl _ _⟩))

/-- texts, one behind the other -/
def encT (l : List ByteArray) : List (List AV) := l.map (fun s => [.v (.string s)])

end Go.Proofs.Ytokoneddljheaaa
