/- name.letter, name.Vertex -/
import Derived.Test.YteihcfhdhkamfaaProg
import Derived.Test.YteihcfhdhkamfaaBase
import Derived.Test.YteihcfhdhkamfaaBase2
namespace Go.Proofs.Yteihcfhdhkamfaa
open Go.RowKit

set_option maxHeartbeats 400000 in
theorem letter_any (c : Int) (w : World) : Calls Try.prog 118 #[.int .i32 c] w fun e w' => e = .returned (.bool (ltrI c)) ∧ w = w' := by
  unfold ltrI
  by_cases h1 : 97 ≤ c
  · have d1 : decide (97 ≤ c) = true := by simpa using h1
    rw [d1, Bool.true_and]
    go_enter Try.func118, Try.ntmps118
    go_wp2_with fail
    go_ret
    exact ⟨rfl, rfl⟩
  · have d1 : decide (97 ≤ c) = false := by simpa using h1
    rw [d1, Bool.false_and]
    go_enter Try.func118, Try.ntmps118
    go_wp2_with fail
    go_ret
    exact ⟨rfl, rfl⟩

theorem signI_cases (c : Int) : (ltrI c = true ∧ signI c = true) ∨ (ltrI c = false ∧ (c != 95) = false ∧ signI c = true) ∨ (ltrI c = false ∧ (c != 95) = true ∧ c < 48 ∧ signI c = false) ∨
    (ltrI c = false ∧ (c != 95) = true ∧ 48 ≤ c ∧ 57 < c ∧ signI c = false) ∨ (ltrI c = false ∧ (c != 95) = true ∧ 48 ≤ c ∧ c ≤ 57 ∧ signI c = true) := by
  unfold signI
  cases h : ltrI c
  · by_cases h1 : c = 95
    · subst h1; exact .inr (.inl ⟨rfl, rfl, rfl⟩)
    · have hn : (c == 95) = false := by simpa using h1
      have hn' : (c != 95) = true := by simpa using h1
      rw [hn, hn']
      by_cases h2 : 48 ≤ c
      · by_cases h3 : c ≤ 57
        · exact .inr (.inr (.inr (.inr ⟨rfl, rfl, h2, h3, by simp [h2, h3]⟩)))
        · exact .inr (.inr (.inr (.inl ⟨rfl, rfl, h2, by omega, by simp [h3]⟩)))
      · exact .inr (.inr (.inl ⟨rfl, rfl, by omega, by simp [h2]⟩))
  · exact .inl ⟨rfl, by simp⟩

set_option maxRecDepth 100000 in
set_option maxHeartbeats 2000000 in
theorem nvertex_any (s : ByteArray) (w : World) (hs : s.size ≤ maxLen) : Calls Try.prog 117 #[.string s] w (Ret w (.bool (vertB s))) := by
  unfold maxLen at hs
  have hit : ∀ pos, Below w.heap.size w (w.iter s pos) := fun pos => (Below.refl _ _).alloc (Nat.le_refl _) _
  have HI := Lib.hid hit; clear hit
  go_enter Try.func117, Try.ntmps117
  go_wp2_with fail
  go_loopw [2] (fun r wr => r = .bool false ∧ ∃ pos : Nat, wr = w.iter s pos ∧ pos ≤ s.size ∧ ∀ j (h : j < pos) (h' : j < s.size), signI s[j].toNat = true) (fun _ wr => s.size - wr.iterPos w.heap.size)
  case atStart => exact ⟨rfl, 0, rfl, Nat.zero_le _, fun j h => by omega⟩
  case round =>
    obtain ⟨rfl, pos, rfl, hpos, hP⟩ := hrel
    have HP := Lib.hid hP; clear hP
    by_cases hp : pos < s.size
    · by_cases ha : (s[pos]'hp).toNat < 128
      · have hnx : ∀ ty, (Instr.next (.pointer (some ⟨w.heap.size, 0, none⟩)) true ty).run Try.prog (w.iter s pos) = _ := fun ty => run_next_ascii w s pos ty hp ha
        have HV := Lib.hid (@vertB_no s pos hp)
        have HS : Hid (∀ (hv : signI (s[pos]'hp).toNat = true) j (h : j < pos + 1) (h' : j < s.size), signI s[j].toNat = true) := fun hv j h h' => by
          by_cases e : j = pos
          · subst e; exact hv
          · exact HP.out j (by omega) h'
        have hL := fun W => letter_any (((s[pos]'hp).toNat : Nat) : Int) W
        generalize hn : (s[pos]'hp).toNat = n at hnx ha HV HS hL
        have HN := Lib.hid hn; clear hn
        have HL := Lib.hid hL; clear hL
        rcases signI_cases (n : Int) with ⟨g1, g2⟩ | ⟨g1, g2, g3⟩ | ⟨g1, g2, g3, g4⟩ | ⟨g1, g2, g3, g4, g5⟩ | ⟨g1, g2, g3, g4, g5⟩
        · rw [g1] at HL
          clear g1
          have HG := Lib.hid g2; clear g2
          go_wp2_with (go_at_call 118; refine (HL.out _).mono ?_; rintro e w' ⟨rfl, rfl⟩)
          go_roundw
          case rel => exact ⟨rfl, pos + 1, rfl, by omega, HS.out HG.out⟩
          case measure => simp; omega
        · rw [g1] at HL
          clear g1
          have HG := Lib.hid g3; clear g3
          go_wp2_with (go_at_call 118; refine (HL.out _).mono ?_; rintro e w' ⟨rfl, rfl⟩)
          go_roundw
          case rel => exact ⟨rfl, pos + 1, rfl, by omega, HS.out HG.out⟩
          case measure => simp; omega
        · rw [g1] at HL
          clear g1
          have HG := Lib.hid g4; clear g4
          go_wp2_with (go_at_call 118; refine (HL.out _).mono ?_; rintro e w' ⟨rfl, rfl⟩)
          go_ret
          exact ret_b rfl (HV.out HG.out).symm (HI.out _)
        · rw [g1] at HL
          clear g1
          have HG := Lib.hid g5; clear g5
          go_wp2_with (go_at_call 118; refine (HL.out _).mono ?_; rintro e w' ⟨rfl, rfl⟩)
          go_ret
          exact ret_b rfl (HV.out HG.out).symm (HI.out _)
        · rw [g1] at HL
          clear g1
          have HG := Lib.hid g5; clear g5
          go_wp2_with (go_at_call 118; refine (HL.out _).mono ?_; rintro e w' ⟨rfl, rfl⟩)
          go_roundw
          case rel => exact ⟨rfl, pos + 1, rfl, by omega, HS.out HG.out⟩
          case measure => simp; omega
      · have hnx : ∀ ty, (Instr.next (.pointer (some ⟨w.heap.size, 0, none⟩)) true ty).run Try.prog (w.iter s pos) = _ := fun ty => run_next_any w s pos ty hp
        have hd := (decode_high s pos hp (by omega)).1
        have HV := Lib.hid (vertB_no hp (by
          have hl : ltrI (((s[pos]'hp).toNat : Nat) : Int) = false := by unfold ltrI; simp; omega
          unfold signI; rw [hl]; simp; omega))
        have hL := fun W => letter_any (((Utf8.decode s pos).1 : Nat) : Int) W
        generalize (Utf8.decode s pos).1 = n at hnx hd hL
        generalize (Utf8.decode s pos).2 = m at hnx
        have hl : ltrI (n : Int) = false := by unfold ltrI; simp; omega
        rw [hl] at hL
        have hn : ((n : Int) != 95) = true := by simp; omega
        have HL := Lib.hid hL; clear hL hl ha
        go_wp2_with (go_at_call 118; refine (HL.out _).mono ?_; rintro e w' ⟨rfl, rfl⟩)
        go_ret
        exact ret_b rfl HV.out.symm (HI.out _)
    · have hnx : ∀ ty, (Instr.next (.pointer (some ⟨w.heap.size, 0, none⟩)) true ty).run Try.prog (w.iter s pos) = _ := fun ty => run_next_end w s pos ty hp
      have HV := Lib.hid (vertB_yes (s := s) (fun j h => HP.out j (by omega) h))
      have he := toList_isEmpty s
      by_cases h0 : s.size = 0
      · rw [decide_eq_true h0] at he
        have hx : Hid ((decide (1 ≤ s.size) && decide (s.size ≤ 20)) = false) := by show _ = _; simp [h0]
        clear h0
        go_wp2_with fail
        go_ret
        exact ret_b rfl (by rw [HV.out, hx.out]) (HI.out _)
      · rw [decide_eq_false h0] at he
        have hx : Hid ((decide (1 ≤ s.size) && decide (s.size ≤ 20)) = decide (s.size ≤ 20)) := by show _ = _; rw [decide_eq_true (by omega), Bool.true_and]
        go_wp2_with fail
        go_ret
        exact ret_b rfl (by rw [HV.out, hx.out, decide_eq_decide]; omega) (HI.out _)

/-! slices.Index, slices.Contains of texts -/
/-- the first place of a text, or below 0 -/
def idxB (xs : List ByteArray) (s : ByteArray) : Int := match xs.findIdx? (fun x => seqb s x) with | some k => k | none => -1
def hasB (xs : List ByteArray) (s : ByteArray) : Bool := xs.any (fun x => seqb s x)

theorem idxB_at {xs : List ByteArray} {s : ByteArray} {k : Nat} (hk : k < xs.length) (hx : seqb s xs[k] = true) (h : ∀ j (_ : j < k) (h' : j < xs.length), seqb s xs[j] = false) : idxB xs s = k := by
  have : xs.findIdx? (fun x => seqb s x) = some k := by
    rw [List.findIdx?_eq_some_iff_getElem]
    exact ⟨hk, hx, fun j hj => by rw [h j hj (by omega)]; decide⟩
  rw [idxB, this]
theorem idxB_none {xs : List ByteArray} {s : ByteArray} (h : ∀ j (h : j < xs.length), seqb s xs[j] = false) : idxB xs s = -1 := by
  have : xs.findIdx? (fun x => seqb s x) = none := by
    rw [List.findIdx?_eq_none_iff]
    intro x hx
    obtain ⟨j, hj, rfl⟩ := List.getElem_of_mem hx
    exact h j hj
  rw [idxB, this]
theorem idxB_has (xs : List ByteArray) (s : ByteArray) : decide (0 ≤ idxB xs s) = hasB xs s := by
  unfold idxB hasB
  cases h : xs.findIdx? (fun x => seqb s x) with
  | none =>
    rw [List.findIdx?_eq_none_iff] at h
    simp only [show decide ((0 : Int) ≤ -1) = false by decide]
    rw [eq_comm, List.any_eq_false]
    exact fun x hx => by rw [h x hx]; decide
  | some k =>
    rw [List.findIdx?_eq_some_iff_getElem] at h
    obtain ⟨h1, h2, _⟩ := h
    rw [decide_eq_true (by simp), eq_comm, List.any_eq_true]
    exact ⟨xs[k], List.getElem_mem _, h2⟩

set_option maxRecDepth 100000 in
set_option maxHeartbeats 2000000 in
theorem index_any (xs : List ByteArray) (v : Value) (s : ByteArray) (w : World) (h1 : RdStrs w xs v) :
    Calls Try.prog 94 #[v, .string s] w (RetS w (.int .i64 (idxB xs s))) := by
  obtain ⟨p, c, rfl, hc1, hc2⟩ := h1.shape
  unfold maxLen at hc2
  have H1 := Lib.hid h1; clear h1
  go_enter Try.func94, Try.ntmps94
  go_wp2_with fail
  go_loop [4, 8] (fun r i => r = .int .i64 0 ∧ ∃ k : Nat, k ≤ xs.length ∧ i = .int .i64 k ∧ ∀ j (h : j < k) (h' : j < xs.length), seqb s xs[j] = false) (fun _ i => xs.length - (intOf i).toNat)
  case atStart => exact ⟨rfl, 0, Nat.zero_le _, rfl, fun j h => by omega⟩
  case round =>
    obtain ⟨rfl, k, hk, rfl, hP⟩ := hrel
    have HP := Lib.hid hP; clear hP
    by_cases hlt : k < xs.length
    · obtain ⟨b1, o1, rfl, a0⟩ := rdStrs_at H1.out hlt
      cases hs : seqb s xs[k]
      · have HS := Lib.hid hs
        unfold seqb at hs
        go_wp2_with fail
        go_round
        case rel => exact ⟨rfl, k + 1, by omega, by go_num, fun j h h' => by
          by_cases e : j = k
          · subst e; exact HS.out
          · exact HP.out j (by omega) h'⟩
        case measure => simp [intOf]; omega
      · have HS := Lib.hid hs
        unfold seqb at hs
        go_wp2_with fail
        go_ret
        exact rets_i rfl (idxB_at hlt HS.out HP.out).symm
    · go_wp2_with fail
      go_ret
      exact rets_i rfl (idxB_none (fun j h => HP.out j (by omega) h)).symm

set_option maxRecDepth 100000 in
set_option maxHeartbeats 1000000 in
theorem contains_any (xs : List ByteArray) (v : Value) (s : ByteArray) (w : World) (h1 : RdStrs w xs v) :
    Calls Try.prog 119 #[v, .string s] w (RetS w (.bool (hasB xs s))) := by
  have HC := Lib.hid (index_any xs v s w h1); clear h1
  rw [← idxB_has]
  go_enter Try.func119, Try.ntmps119
  go_wp2_with fail
  refine HC.out.mono ?_
  rintro e w' ⟨rfl, rfl⟩
  go_wp2_with fail
  go_ret
  exact ⟨rfl, rfl⟩

end Go.Proofs.Yteihcfhdhkamfaa
