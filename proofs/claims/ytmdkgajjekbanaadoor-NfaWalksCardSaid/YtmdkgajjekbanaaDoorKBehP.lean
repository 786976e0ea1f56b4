/- Where words of an expression lead from some places of a word. Plain Lean. -/
import Derived.Test.YtmdkgajjekbanaaDoorKTakesP
set_option linter.unusedSimpArgs false
set_option linter.unusedVariables false
namespace Go.Proofs.YtmdkgajjekbanaaDoor
open Go.RowKit

/-- the places to which words of a language lead -/
noncomputable def bh (w : List ByteArray) (L : List ByteArray → Prop) (fr : List Nat) : List Nat := (List.range (w.length + 1)).filter (fun j => @decide (∃ i, i ∈ fr ∧ Tk L w i j) (Classical.propDecidable _))
theorem bh_mem {w : List ByteArray} {L : List ByteArray → Prop} {fr : List Nat} {j : Nat} : j ∈ bh w L fr ↔ ∃ i, i ∈ fr ∧ Tk L w i j := by
  simp only [bh, List.mem_filter, List.mem_range, decide_eq_true_eq]
  exact ⟨fun h => h.2, fun h => ⟨by obtain ⟨i, _, h⟩ := h; have := h.2.1; omega, h⟩⟩
theorem bh_rise (w : List ByteArray) (L : List ByteArray → Prop) (fr : List Nat) : (bh w L fr).Pairwise (· < ·) := List.pairwise_lt_range.filter _
theorem bh_le {w : List ByteArray} {L : List ByteArray → Prop} {fr : List Nat} {j : Nat} (h : j ∈ bh w L fr) : j ≤ w.length := by
  obtain ⟨i, _, h⟩ := bh_mem.1 h
  exact h.2.1
theorem bh_len (w : List ByteArray) (L : List ByteArray → Prop) (fr : List Nat) : (bh w L fr).length ≤ w.length + 1 := rise_bound (bh_rise w L fr) (fun j h => by have := bh_le h; omega)
theorem bh_congr {w : List ByteArray} {L M : List ByteArray → Prop} {fr : List Nat} (h : ∀ u, L u ↔ M u) : bh w L fr = bh w M fr := rise_ext (bh_rise _ _ _) (bh_rise _ _ _) (fun j => by
  rw [bh_mem, bh_mem]
  simp only [Tk, h])
theorem bh_of {w : List ByteArray} {L : List ByteArray → Prop} {fr l : List Nat} (h : ∀ j, j ∈ l ↔ ∃ i, i ∈ fr ∧ Tk L w i j) : srt l = bh w L fr := rise_ext (srt_rise _) (bh_rise _ _ _) (fun j => by rw [srt_mem, bh_mem]; exact h j)

theorem Lg1 (s : ByteArray) (l : List Ex) : ∀ u, Lg (.mk 1 s l) u ↔ u = [s] := fun u => by simp [Lg]
theorem Lg2 (s : ByteArray) (l : List Ex) : ∀ u, Lg (.mk 2 s l) u ↔ LgSeq l u := fun u => by simp [Lg]
theorem Lg3 (s : ByteArray) (l : List Ex) : ∀ u, Lg (.mk 3 s l) u ↔ LgAlt l u := fun u => by simp [Lg]
theorem Lg4 (s : ByteArray) (x : Ex) : ∀ u, Lg (.mk 4 s [x]) u ↔ StarL (Lg x) u := fun u => by
  have : LgHd [x] = Lg x := by funext u; simp [LgHd]
  simp [Lg, this]
theorem Lg5 (s : ByteArray) (x : Ex) : ∀ u, Lg (.mk 5 s [x]) u ↔ ∃ a b, u = a ++ b ∧ Lg x a ∧ StarL (Lg x) b := fun u => by
  have : LgHd [x] = Lg x := by funext u; simp [LgHd]
  simp [Lg, this]
theorem Lg6 (s : ByteArray) (x : Ex) : ∀ u, Lg (.mk 6 s [x]) u ↔ u = [] ∨ Lg x u := fun u => by simp [Lg, LgHd]

theorem tk_lab {w : List ByteArray} {s : ByteArray} {i j : Nat} : Tk (fun u => u = [s]) w i j ↔ ∃ h : i < w.length, w[i] = s ∧ j = i + 1 := by
  constructor
  · rintro ⟨h1, h2, h3⟩
    have hl : j - i = 1 := by rw [← bwn_len h2, h3]; rfl
    have hi : i < w.length := by omega
    refine ⟨hi, ?_, by omega⟩
    rw [bwn, hl, List.drop_eq_getElem_cons hi, List.take_succ_cons, List.take_zero] at h3
    exact List.head_eq_of_cons_eq h3
  · rintro ⟨h, rfl, rfl⟩
    refine ⟨by omega, by omega, ?_⟩
    show bwn w i (i + 1) = [w[i]]
    rw [bwn, show i + 1 - i = 1 by omega, List.drop_eq_getElem_cons h, List.take_succ_cons, List.take_zero]
/-- behind a label -/
def labF (w : List ByteArray) (s : ByteArray) (fr : List Nat) : List Nat := (fr.filter (fun k => decide (w[k]? = some s))).map (· + 1)
theorem labF_ok (w : List ByteArray) (s : ByteArray) (l : List Ex) (fr : List Nat) : srt (labF w s fr) = bh w (Lg (.mk 1 s l)) fr := by
  rw [bh_congr (Lg1 s l)]
  refine bh_of (fun j => ?_)
  simp only [labF, List.mem_map, List.mem_filter, decide_eq_true_eq, tk_lab]
  constructor
  · rintro ⟨k, ⟨h1, h2⟩, rfl⟩
    obtain ⟨h3, h4⟩ := List.getElem?_eq_some_iff.1 h2
    exact ⟨k, h1, h3, h4, rfl⟩
  · rintro ⟨k, h1, h3, h4, rfl⟩
    exact ⟨k, ⟨h1, List.getElem?_eq_some_iff.2 ⟨h3, h4⟩⟩, rfl⟩
theorem labF_snoc (w : List ByteArray) (s : ByteArray) (fr : List Nat) (i : Nat) (h : i < fr.length) : labF w s (fr.take (i + 1)) = labF w s (fr.take i) ++ (if w[fr[i]]? = some s then [fr[i] + 1] else []) := by
  rw [List.take_succ_eq_append_getElem h, labF, List.filter_append, List.map_append, labF]
  congr 1
  by_cases h : w[fr[i]]? = some s <;> simp [h]
theorem bh_nil {w : List ByteArray} {fr : List Nat} (h : fr.Pairwise (· < ·)) (hb : ∀ j, j ∈ fr → j ≤ w.length) : bh w (LgSeq []) fr = fr := rise_ext (bh_rise _ _ _) h (fun j => by
  rw [bh_mem]
  constructor
  · rintro ⟨i, hi, ht⟩
    obtain ⟨rfl, _⟩ := Tk.seq_nil.1 ht
    exact hi
  · intro hj
    exact ⟨j, hj, Tk.seq_nil.2 ⟨rfl, hb j hj⟩⟩)
theorem bh_snoc (w : List ByteArray) (xs : List Ex) (x : Ex) (fr : List Nat) : bh w (Lg x) (bh w (LgSeq xs) fr) = bh w (LgSeq (xs ++ [x])) fr := rise_ext (bh_rise _ _ _) (bh_rise _ _ _) (fun j => by
  rw [bh_mem, bh_mem]
  constructor
  · rintro ⟨k, hk, ht⟩
    obtain ⟨i, hi, hs⟩ := bh_mem.1 hk
    exact ⟨i, hi, Tk.seq_snoc.2 ⟨k, hs, ht⟩⟩
  · rintro ⟨i, hi, ht⟩
    obtain ⟨k, hs, ht⟩ := Tk.seq_snoc.1 ht
    exact ⟨k, bh_mem.2 ⟨i, hi, hs⟩, ht⟩)
theorem srt_bh (w : List ByteArray) (L : List ByteArray → Prop) (fr : List Nat) : srt (bh w L fr) = bh w L fr := srt_of (bh_rise _ _ _)
theorem alt_ok (w : List ByteArray) (l : List Ex) (fr : List Nat) : srt (l.flatMap (fun x => bh w (Lg x) fr)) = bh w (LgAlt l) fr := bh_of (fun j => by
  simp only [List.mem_flatMap, bh_mem, Tk, LgAlt_iff]
  constructor
  · rintro ⟨x, hx, i, hi, h1, h2, h3⟩; exact ⟨i, hi, h1, h2, x, hx, h3⟩
  · rintro ⟨i, hi, h1, h2, x, hx, h3⟩; exact ⟨x, hx, i, hi, h1, h2, h3⟩)
theorem opt_ok (w : List ByteArray) (s : ByteArray) (x : Ex) (fr : List Nat) (hb : ∀ j, j ∈ fr → j ≤ w.length) : srt (fr ++ bh w (Lg x) fr) = bh w (Lg (.mk 6 s [x])) fr := by
  rw [bh_congr (Lg6 s x)]
  refine bh_of (fun j => ?_)
  rw [List.mem_append, bh_mem]
  constructor
  · rintro (h | ⟨i, hi, h1, h2, h3⟩)
    · exact ⟨j, h, Nat.le_refl _, hb j h, .inl (bwn_self w j)⟩
    · exact ⟨i, hi, h1, h2, .inr h3⟩
  · rintro ⟨i, hi, h1, h2, h3 | h3⟩
    · left
      have := bwn_len (w := w) (i := i) h2
      rw [h3] at this
      have e : i = j := by simp at this; omega
      rw [← e]; exact hi
    · exact .inr ⟨i, hi, h1, h2, h3⟩
theorem plus_ok (w : List ByteArray) (s : ByteArray) (x : Ex) (fr : List Nat) : bh w (StarL (Lg x)) (bh w (Lg x) fr) = bh w (Lg (.mk 5 s [x])) fr := by
  rw [bh_congr (Lg5 s x)]
  refine rise_ext (bh_rise _ _ _) (bh_rise _ _ _) (fun j => ?_)
  rw [bh_mem, bh_mem]
  constructor
  · rintro ⟨k, hk, h1, h2, h3⟩
    obtain ⟨i, hi, k1, k2, k3⟩ := bh_mem.1 hk
    exact ⟨i, hi, by omega, h2, bwn w i k, bwn w k j, (bwn_app k1 h1).symm, k3, h3⟩
  · rintro ⟨i, hi, h1, h2, a, b, h3, h4, h5⟩
    obtain ⟨k, k1, k2, k3, k4⟩ := bwn_part h1 h2 h3
    exact ⟨k, bh_mem.2 ⟨i, hi, k1, by omega, by rw [k3]; exact h4⟩, k2, h2, by rw [k4]; exact h5⟩
theorem star_ok (w : List ByteArray) (s : ByteArray) (x : Ex) (fr : List Nat) : bh w (StarL (Lg x)) fr = bh w (Lg (.mk 4 s [x])) fr := (bh_congr (Lg4 s x)).symm
/-- what holds while more and more places are taken -/
structure AgI (w : List ByteArray) (L : List ByteArray → Prop) (fr out : List Nat) : Prop where
  rise : out.Pairwise (· < ·)
  le : ∀ j, j ∈ out → j ≤ w.length
  sub : ∀ j, j ∈ fr → j ∈ out
  by' : ∀ j, j ∈ out → ∃ i, i ∈ fr ∧ Tk (StarL L) w i j
theorem AgI.start {w : List ByteArray} {L : List ByteArray → Prop} {fr : List Nat} (h : fr.Pairwise (· < ·)) (hb : ∀ j, j ∈ fr → j ≤ w.length) : AgI w L fr fr := ⟨h, hb, fun _ h => h, fun j hj => ⟨j, hj, Tk.star_refl (hb j hj)⟩⟩
theorem AgI.next {w : List ByteArray} {L : List ByteArray → Prop} {fr out : List Nat} (h : AgI w L fr out) : AgI w L fr (srt (out ++ bh w L out)) ∧ out.length ≤ (srt (out ++ bh w L out)).length ∧ (srt (out ++ bh w L out)).length ≤ w.length + 1 ∧ ((srt (out ++ bh w L out)).length = out.length → out = bh w (StarL L) fr) := by
  have hn : AgI w L fr (srt (out ++ bh w L out)) := by
    refine ⟨srt_rise _, fun j hj => ?_, fun j hj => srt_mem.2 (List.mem_append_left _ (h.sub j hj)), fun j hj => ?_⟩
    · rcases List.mem_append.1 (srt_mem.1 hj) with e | e
      · exact h.le j e
      · exact bh_le e
    · rcases List.mem_append.1 (srt_mem.1 hj) with e | e
      · exact h.by' j e
      · obtain ⟨k, hk, ht⟩ := bh_mem.1 e
        obtain ⟨i, hi, hs⟩ := h.by' k hk
        exact ⟨i, hi, Tk.star_trans hs (Tk.star_one ht)⟩
  have hs := rise_sub_len h.rise hn.rise (fun j hj => srt_mem.2 (List.mem_append_left _ hj))
  refine ⟨hn, hs.1, rise_bound hn.rise (fun j hj => by have := hn.le j hj; omega), fun e => ?_⟩
  have he := hs.2 e.symm
  refine rise_ext h.rise (bh_rise _ _ _) (fun j => ?_)
  rw [bh_mem]
  constructor
  · exact h.by' j
  · rintro ⟨i, hi, ht⟩
    refine Tk.star_closed (fun k => k ∈ out) (fun a b ha hab => ?_) (h.sub i hi) ht
    rw [he]
    exact srt_mem.2 (List.mem_append_right _ (bh_mem.2 ⟨a, ha, hab⟩))
end Go.Proofs.YtmdkgajjekbanaaDoor
