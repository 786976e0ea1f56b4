/- name.letter, name.Vertex -/
import Derived.Test.YtfflpdekojlnmaaDoorProg
import Derived.Test.YtfflpdekojlnmaaDoorLBase2

/-! name.letter, name.Vertex -/
namespace Go.Proofs.YtfflpdekojlnmaaDoor
open Go.RowKit

set_option maxHeartbeats 400000 in
theorem letter_any (c : Int) (w : World) : Calls Tryd.prog 76 #[.int .i32 c] w fun e w' => e = .returned (.bool (ltrI c)) ∧ w = w' := by
 unfold ltrI
 by_cases h1 : 97 ≤ c
 ·have d1 : decide (97 ≤ c) = true := by simpa using h1
  rw [d1, Bool.true_and]
  go_enter Tryd.func76, Tryd.ntmps76
  go_wp2_with fail
  go_ret
  exact ⟨rfl, rfl⟩
 ·have d1 : decide (97 ≤ c) = false := by simpa using h1
  rw [d1, Bool.false_and]
  go_enter Tryd.func76, Tryd.ntmps76
  go_wp2_with fail
  go_ret
  exact ⟨rfl, rfl⟩

theorem signI_cases (c : Int) : (ltrI c = true ∧ signI c = true) ∨ (ltrI c = false ∧ (c != 95) = false ∧ signI c = true) ∨ (ltrI c = false ∧ (c != 95) = true ∧ c < 48 ∧ signI c = false) ∨
  (ltrI c = false ∧ (c != 95) = true ∧ 48 ≤ c ∧ 57 < c ∧ signI c = false) ∨ (ltrI c = false ∧ (c != 95) = true ∧ 48 ≤ c ∧ c ≤ 57 ∧ signI c = true) := by
 unfold signI
 cases h : ltrI c
 ·by_cases h1 : c = 95
  ·subst h1; exact .inr (.inl ⟨rfl, rfl, rfl⟩)
  ·have hn : (c == 95) = false := by simpa using h1
   have hn' : (c != 95) = true := by simpa using h1
   rw [hn, hn']
   by_cases h2 : 48 ≤ c
   ·by_cases h3 : c ≤ 57
    ·exact .inr (.inr (.inr (.inr ⟨rfl, rfl, h2, h3, by simp [h2, h3]⟩)))
    ·exact .inr (.inr (.inr (.inl ⟨rfl, rfl, h2, by omega, by simp [h3]⟩)))
   ·exact .inr (.inr (.inl ⟨rfl, rfl, by omega, by simp [h2]⟩))
 ·exact .inl ⟨rfl, by simp⟩

set_option maxRecDepth 100000 in
set_option maxHeartbeats 2000000 in
theorem nvertex_any (s : ByteArray) (w : World) (hs : s.size ≤ maxLen) : Calls Tryd.prog 75 #[.string s] w (Ret w (.bool (vertB s))) := by
 unfold maxLen at hs
 have hit : ∀ pos, Below w.heap.size w (w.iter s pos) := fun pos => (Below.refl _ _).alloc (Nat.le_refl _) _
 have HI := Lib.hid hit; clear hit
 go_enter Tryd.func75, Tryd.ntmps75
 go_wp2_with fail
 go_loopw [2] (fun r wr => r = .bool false ∧ ∃ pos : Nat, wr = w.iter s pos ∧ pos ≤ s.size ∧ ∀ j (h : j < pos) (h' : j < s.size), signI s[j].toNat = true) (fun _ wr => s.size - wr.iterPos w.heap.size)
 case atStart => exact ⟨rfl, 0, rfl, Nat.zero_le _, fun j h => by omega⟩
 case round =>
  obtain ⟨rfl, pos, rfl, hpos, hP⟩ := hrel
  have HP := Lib.hid hP; clear hP
  by_cases hp : pos < s.size
  ·by_cases ha : (s[pos]'hp).toNat < 128
   ·have hnx : ∀ ty, (Instr.next (.pointer (some ⟨w.heap.size, 0, none⟩)) true ty).run Tryd.prog (w.iter s pos) = _ := fun ty => run_next_ascii w s pos ty hp ha
    have HV := Lib.hid (@vertB_no s pos hp)
    have HS : Hid (∀ (hv : signI (s[pos]'hp).toNat = true) j (h : j < pos + 1) (h' : j < s.size), signI s[j].toNat = true) := fun hv j h h' => by
     by_cases e : j = pos
     ·subst e; exact hv
     ·exact HP.out j (by omega) h'
    have hL := fun W => letter_any (((s[pos]'hp).toNat : Nat) : Int) W
    generalize hn : (s[pos]'hp).toNat = n at hnx ha HV HS hL
    have HN := Lib.hid hn; clear hn
    have HL := Lib.hid hL; clear hL
    rcases signI_cases (n : Int) with ⟨g1, g2⟩ | ⟨g1, g2, g3⟩ | ⟨g1, g2, g3, g4⟩ | ⟨g1, g2, g3, g4, g5⟩ | ⟨g1, g2, g3, g4, g5⟩
    ·rw [g1] at HL
     clear g1
     have HG := Lib.hid g2; clear g2
     go_wp2_with (go_at_call 76; refine (HL.out _).mono ?_; rintro e w' ⟨rfl, rfl⟩)
     go_roundw
     case rel => exact ⟨rfl, pos + 1, rfl, by omega, HS.out HG.out⟩
     case measure => simp; omega
    ·rw [g1] at HL
     clear g1
     have HG := Lib.hid g3; clear g3
     go_wp2_with (go_at_call 76; refine (HL.out _).mono ?_; rintro e w' ⟨rfl, rfl⟩)
     go_roundw
     case rel => exact ⟨rfl, pos + 1, rfl, by omega, HS.out HG.out⟩
     case measure => simp; omega
    ·rw [g1] at HL
     clear g1
     have HG := Lib.hid g4; clear g4
     go_wp2_with (go_at_call 76; refine (HL.out _).mono ?_; rintro e w' ⟨rfl, rfl⟩)
     go_ret
     exact ret_b rfl (HV.out HG.out).symm (HI.out _)
    ·rw [g1] at HL
     clear g1
     have HG := Lib.hid g5; clear g5
     go_wp2_with (go_at_call 76; refine (HL.out _).mono ?_; rintro e w' ⟨rfl, rfl⟩)
     go_ret
     exact ret_b rfl (HV.out HG.out).symm (HI.out _)
    ·rw [g1] at HL
     clear g1
     have HG := Lib.hid g5; clear g5
     go_wp2_with (go_at_call 76; refine (HL.out _).mono ?_; rintro e w' ⟨rfl, rfl⟩)
     go_roundw
     case rel => exact ⟨rfl, pos + 1, rfl, by omega, HS.out HG.out⟩
     case measure => simp; omega
   ·have hnx : ∀ ty, (Instr.next (.pointer (some ⟨w.heap.size, 0, none⟩)) true ty).run Tryd.prog (w.iter s pos) = _ := fun ty => run_next_any w s pos ty hp
    have hd := (decode_high s pos hp (by omega)).1
    have HV := Lib.hid (vertB_no hp (by
     have hl : ltrI (((s[pos]'hp).toNat : Nat) : Int) = false := by unfold ltrI; simp; omega
     unfold signI; rw [hl]; simp; omega))
    have hL := fun W => letter_any (((Utf8.decode s pos).1 : Nat) : Int) W
    generalize (Utf8.decode s pos).1 = n at hnx hd hL
    generalize (Utf8.decode s pos).2 = m at hnx
    have hl : ltrI (n : Int) = false := by unfold ltrI; simp; omega
    rw [hl] at hL
    have hn : ((n : Int) != 95) = true := by simp; omega
    have HL := Lib.hid hL; clear hL hl ha
    go_wp2_with (go_at_call 76; refine (HL.out _).mono ?_; rintro e w' ⟨rfl, rfl⟩)
    go_ret
    exact ret_b rfl HV.out.symm (HI.out _)
  ·have hnx : ∀ ty, (Instr.next (.pointer (some ⟨w.heap.size, 0, none⟩)) true ty).run Tryd.prog (w.iter s pos) = _ := fun ty => run_next_end w s pos ty hp
   have HV := Lib.hid (vertB_yes (s := s) (fun j h => HP.out j (by omega) h))
   have he := toList_isEmpty s
   by_cases h0 : s.size = 0
   ·rw [decide_eq_true h0] at he
    have hx : Hid ((decide (1 ≤ s.size) && decide (s.size ≤ 20)) = false) := by show _ = _; simp [h0]
    clear h0
    go_wp2_with fail
    go_ret
    exact ret_b rfl (by rw [HV.out, hx.out]) (HI.out _)
   ·rw [decide_eq_false h0] at he
    have hx : Hid ((decide (1 ≤ s.size) && decide (s.size ≤ 20)) = decide (s.size ≤ 20)) := by show _ = _; rw [decide_eq_true (by omega), Bool.true_and]
    go_wp2_with fail
    go_ret
    exact ret_b rfl (by rw [HV.out, hx.out, decide_eq_decide]; omega) (HI.out _)

/-! slices.Index, slices.Contains of texts -/
def idxB (xs : List ByteArray) (s : ByteArray) : Int := match xs.findIdx? (fun x => seqb s x) with | some k => k | none => -1
def hasB (xs : List ByteArray) (s : ByteArray) : Bool := xs.any (fun x => seqb s x)

theorem idxB_at {xs : List ByteArray} {s : ByteArray} {k : Nat} (hk : k < xs.length) (hx : seqb s xs[k] = true) (h : ∀ j (_ : j < k) (h' : j < xs.length), seqb s xs[j] = false) : idxB xs s = k := by
 have : xs.findIdx? (fun x => seqb s x) = some k := by
  rw [List.findIdx?_eq_some_iff_getElem]
  exact ⟨hk, hx, fun j hj => by rw [h j hj (by omega)]; decide⟩
 rw [idxB, this]
theorem idxB_none {xs : List ByteArray} {s : ByteArray} (h : ∀ j (h : j < xs.length), seqb s xs[j] = false) : idxB xs s = -1 := by
 have : xs.findIdx? (fun x => seqb s x) = none := by
  rw [List.findIdx?_eq_none_iff]
  intro x hx
  obtain ⟨j, hj, rfl⟩ := List.getElem_of_mem hx
  exact h j hj
 rw [idxB, this]
theorem idxB_has (xs : List ByteArray) (s : ByteArray) : decide (0 ≤ idxB xs s) = hasB xs s := by
 unfold idxB hasB
 cases h : xs.findIdx? (fun x => seqb s x) with
 | none =>
  rw [List.findIdx?_eq_none_iff] at h
  simp only [show decide ((0 : Int) ≤ -1) = false by decide]
  rw [eq_comm, List.any_eq_false]
  exact fun x hx => by rw [h x hx]; decide
 | some k =>
  rw [List.findIdx?_eq_some_iff_getElem] at h
  obtain ⟨h1, h2, _⟩ := h
  rw [decide_eq_true (by simp), eq_comm, List.any_eq_true]
  exact ⟨xs[k], List.getElem_mem _, h2⟩

set_option maxRecDepth 100000 in
set_option maxHeartbeats 2000000 in
theorem index_any (xs : List ByteArray) (v : Value) (s : ByteArray) (w : World) (h1 : RdStrs w xs v) :
  Calls Tryd.prog 90 #[v, .string s] w (RetS w (.int .i64 (idxB xs s))) := by
 obtain ⟨p, c, rfl, hc1, hc2⟩ := h1.shape
 unfold maxLen at hc2
 have H1 := Lib.hid h1; clear h1
 go_enter Tryd.func90, Tryd.ntmps90
 go_wp2_with fail
 go_loop [4, 8] (fun r i => r = .int .i64 0 ∧ ∃ k : Nat, k ≤ xs.length ∧ i = .int .i64 k ∧ ∀ j (h : j < k) (h' : j < xs.length), seqb s xs[j] = false) (fun _ i => xs.length - (intOf i).toNat)
 case atStart => exact ⟨rfl, 0, Nat.zero_le _, rfl, fun j h => by omega⟩
 case round =>
  obtain ⟨rfl, k, hk, rfl, hP⟩ := hrel
  have HP := Lib.hid hP; clear hP
  by_cases hlt : k < xs.length
  ·obtain ⟨b1, o1, rfl, a0⟩ := rdStrs_at H1.out hlt
   cases hs : seqb s xs[k]
   ·have HS := Lib.hid hs
    unfold seqb at hs
    go_wp2_with fail
    go_round
    case rel => exact ⟨rfl, k + 1, by omega, by go_num, fun j h h' => by
     by_cases e : j = k
     ·subst e; exact HS.out
     ·exact HP.out j (by omega) h'⟩
    case measure => simp [intOf]; omega
   ·have HS := Lib.hid hs
    unfold seqb at hs
    go_wp2_with fail
    go_ret
    exact rets_i rfl (idxB_at hlt HS.out HP.out).symm
  ·go_wp2_with fail
   go_ret
   exact rets_i rfl (idxB_none (fun j h => HP.out j (by omega) h)).symm

set_option maxRecDepth 100000 in
set_option maxHeartbeats 1000000 in
theorem contains_any (xs : List ByteArray) (v : Value) (s : ByteArray) (w : World) (h1 : RdStrs w xs v) :
  Calls Tryd.prog 77 #[v, .string s] w (RetS w (.bool (hasB xs s))) := by
 have HC := Lib.hid (index_any xs v s w h1); clear h1
 rw [← idxB_has]
 go_enter Tryd.func77, Tryd.ntmps77
 go_wp2_with fail
 refine HC.out.mono ?_
 rintro e w' ⟨rfl, rfl⟩
 go_wp2_with fail
 go_ret
 exact ⟨rfl, rfl⟩

end Go.Proofs.YtfflpdekojlnmaaDoor

/-! name.Free -/
namespace Go.Proofs.YtfflpdekojlnmaaDoor
open Go.RowKit

set_option maxRecDepth 100000 in
set_option maxHeartbeats 2000000 in
theorem free_any (s : ByteArray) (w : World) (hs : s.size ≤ maxLen) : Calls Tryd.prog 56 #[.string s] w (Ret w (.bool (freeB s))) := by
 have HV := Lib.hid (fun W => nvertex_any s W hs)
 have HB := Lib.hid (fun o => ((Below.refl w.heap.size w).alloc (Nat.le_refl _) o))
 have HW : Hid (∀ W1, Below (w.alloc (.cells (words.map Value.string).toArray 9)).heap.size (w.alloc (.cells (words.map Value.string).toArray 9)) W1 → Calls Tryd.prog 77 #[.slice (some ⟨w.heap.size, 0, none⟩) 7 7, .string s] W1 (RetS W1 (.bool (hasB words s)))) := fun W1 hb =>
  contains_any words _ s W1 (rdSl_block (rd := RdStr) (xs := words) (sz := 1) ((hb.block _ (by simp)).trans (heap_new w _)) (fun x => [Value.string x]) (fun x _ => rfl) (fun x _ => rfl) (by simp [List.flatMap, words]) rfl (by decide) (by unfold maxLen; decide))
 cases g1 : vertB s
 ·rw [g1] at HV
  have hfin : freeB s = false := by simp [freeB, g1]
  rw [hfin]; clear hfin
  have G1 := Lib.hid g1; clear g1 HW
  go_enter Tryd.func56, Tryd.ntmps56
  go_wp2_with fail
  refine (HV.out _).mono ?_
  rintro e w1 ⟨rfl, hb1⟩
  go_wp2_with fail
  go_ret
  exact ret_b rfl rfl (below_step (HB.out _) hb1)
 ·rw [g1] at HV
  obtain ⟨h0, _⟩ := vertB_size g1
  have hl := fun W => letter_any (firstI s) W
  have hfin : freeB s = (ltrI (firstI s) && !hasB words s) := by simp [freeB, g1, hasB]
  rw [hfin]; clear hfin
  have hfi : firstI s = ((s[0]'h0).toNat : Int) := by simp [firstI, h0]
  rw [hfi] at hl
  rw [hfi]
  have HL := Lib.hid hl; clear hl hfi
  have hby : (s[0]'h0).toNat < 256 := UInt8.toNat_lt _
  cases g2 : ltrI ((s[0]'h0).toNat : Int)
  ·rw [g2] at HL
   rw [Bool.false_and]
   clear g2
   go_enter Tryd.func56, Tryd.ntmps56
   go_wp2_with fail
   refine (HV.out _).mono ?_
   rintro e w1 ⟨rfl, hb1⟩
   go_wp2_with fail
   refine (HL.out _).mono ?_
   rintro e w' ⟨rfl, rfl⟩
   go_wp2_with fail
   go_ret
   exact ret_b rfl rfl (below_step (HB.out _) hb1)
  ·rw [g2] at HL
   rw [Bool.true_and]
   clear g2
   go_enter Tryd.func56, Tryd.ntmps56
   go_wp2_with fail
   refine (HV.out _).mono ?_
   rintro e w1 ⟨rfl, hb1⟩
   go_wp2_with fail
   refine (HL.out _).mono ?_
   rintro e w' ⟨rfl, rfl⟩
   go_wp2_with fail
   refine (HW.out _ hb1).mono ?_
   rintro e w' ⟨rfl, rfl⟩
   go_wp2_with fail
   go_ret
   exact ret_b rfl rfl (below_step (HB.out _) hb1)
end Go.Proofs.YtfflpdekojlnmaaDoor

/-! value.plain, value.Right, expr.part -/
namespace Go.Proofs.YtfflpdekojlnmaaDoor
open Go.RowKit

set_option maxRecDepth 100000 in
set_option maxHeartbeats 4000000 in
theorem part_any (k : Int) (s : ByteArray) (p : Option Addr) (n c : Nat) (w : World) (hs : s.size ≤ maxLen) (hn : n ≤ maxLen) :
  Calls Tryd.prog 36 #[.agg #[.int .i64 k, .string s, .slice p n c]] w (Ret w (.bool (partB k s n))) := by
 have HF := Lib.hid (fun W => free_any s W hs)
 have HB := Lib.hid (fun o => ((Below.refl w.heap.size w).alloc (Nat.le_refl _) o))
 unfold maxLen at hs hn
 have he := toList_isEmpty s
 cases h1 : k == 1
 ·cases h2 : k == 2
  ·cases h3 : k == 3
   ·cases h4 : k == 4
    ·cases h5 : k == 5
     ·cases h6 : k == 6
      ·have hfin : partB k s n = false := by simp [partB, h1, h2, h3, h4, h5, h6]
       rw [hfin]; clear hfin he HF
       go_enter Tryd.func36, Tryd.ntmps36
       go_wp2_with fail
       go_ret
       exact ret_b rfl rfl (HB.out _)
      ·skip
       by_cases h7 : n = 1
       ·have h8 : ((n : Int) == 1) = true := by simp [h7]
        cases h9 : noB s
        ·have hfin : partB k s n = false := by simp [partB, h1, h2, h3, h4, h5, h6, h7, h9]
         rw [noB] at h9; rw [h9] at he
         rw [hfin]; clear hfin HF h9
         go_enter Tryd.func36, Tryd.ntmps36
         go_wp2_with fail
         go_ret
         exact ret_b rfl rfl (HB.out _)
        ·have hfin : partB k s n = true := by simp [partB, h1, h2, h3, h4, h5, h6, h7, h9]
         rw [noB] at h9; rw [h9] at he
         rw [hfin]; clear hfin HF h9
         go_enter Tryd.func36, Tryd.ntmps36
         go_wp2_with fail
         go_ret
         exact ret_b rfl rfl (HB.out _)
       ·have h8 : ((n : Int) == 1) = false := by simp; omega
        have hfin : partB k s n = false := by simp [partB, h1, h2, h3, h4, h5, h6, h7]
        rw [hfin]; clear hfin he HF
        go_enter Tryd.func36, Tryd.ntmps36
        go_wp2_with fail
        go_ret
        exact ret_b rfl rfl (HB.out _)
     ·skip
      by_cases h7 : n = 1
      ·have h8 : ((n : Int) == 1) = true := by simp [h7]
       cases h9 : noB s
       ·have hfin : partB k s n = false := by simp [partB, h1, h2, h3, h4, h5, h7, h9]
        rw [noB] at h9; rw [h9] at he
        rw [hfin]; clear hfin HF h9
        go_enter Tryd.func36, Tryd.ntmps36
        go_wp2_with fail
        go_ret
        exact ret_b rfl rfl (HB.out _)
       ·have hfin : partB k s n = true := by simp [partB, h1, h2, h3, h4, h5, h7, h9]
        rw [noB] at h9; rw [h9] at he
        rw [hfin]; clear hfin HF h9
        go_enter Tryd.func36, Tryd.ntmps36
        go_wp2_with fail
        go_ret
        exact ret_b rfl rfl (HB.out _)
      ·have h8 : ((n : Int) == 1) = false := by simp; omega
       have hfin : partB k s n = false := by simp [partB, h1, h2, h3, h4, h5, h7]
       rw [hfin]; clear hfin he HF
       go_enter Tryd.func36, Tryd.ntmps36
       go_wp2_with fail
       go_ret
       exact ret_b rfl rfl (HB.out _)
    ·skip
     by_cases h7 : n = 1
     ·have h8 : ((n : Int) == 1) = true := by simp [h7]
      cases h9 : noB s
      ·have hfin : partB k s n = false := by simp [partB, h1, h2, h3, h4, h7, h9]
       rw [noB] at h9; rw [h9] at he
       rw [hfin]; clear hfin HF h9
       go_enter Tryd.func36, Tryd.ntmps36
       go_wp2_with fail
       go_ret
       exact ret_b rfl rfl (HB.out _)
      ·have hfin : partB k s n = true := by simp [partB, h1, h2, h3, h4, h7, h9]
       rw [noB] at h9; rw [h9] at he
       rw [hfin]; clear hfin HF h9
       go_enter Tryd.func36, Tryd.ntmps36
       go_wp2_with fail
       go_ret
       exact ret_b rfl rfl (HB.out _)
     ·have h8 : ((n : Int) == 1) = false := by simp; omega
      have hfin : partB k s n = false := by simp [partB, h1, h2, h3, h4, h7]
      rw [hfin]; clear hfin he HF
      go_enter Tryd.func36, Tryd.ntmps36
      go_wp2_with fail
      go_ret
      exact ret_b rfl rfl (HB.out _)
   ·skip
    by_cases h7 : 1 < n
    ·skip
     cases h9 : noB s
     ·have hfin : partB k s n = false := by simp [partB, h1, h2, h3, h7, h9]
      rw [noB] at h9; rw [h9] at he
      rw [hfin]; clear hfin HF h9
      go_enter Tryd.func36, Tryd.ntmps36
      go_wp2_with fail
      go_ret
      exact ret_b rfl rfl (HB.out _)
     ·have hfin : partB k s n = true := by simp [partB, h1, h2, h3, h7, h9]
      rw [noB] at h9; rw [h9] at he
      rw [hfin]; clear hfin HF h9
      go_enter Tryd.func36, Tryd.ntmps36
      go_wp2_with fail
      go_ret
      exact ret_b rfl rfl (HB.out _)
    ·have hfin : partB k s n = false := by simp [partB, h1, h2, h3, h7]
     rw [hfin]; clear hfin he HF
     go_enter Tryd.func36, Tryd.ntmps36
     go_wp2_with fail
     go_ret
     exact ret_b rfl rfl (HB.out _)
  ·skip
   by_cases h7 : 1 < n
   ·skip
    cases h9 : noB s
    ·have hfin : partB k s n = false := by simp [partB, h1, h2, h7, h9]
     rw [noB] at h9; rw [h9] at he
     rw [hfin]; clear hfin HF h9
     go_enter Tryd.func36, Tryd.ntmps36
     go_wp2_with fail
     go_ret
     exact ret_b rfl rfl (HB.out _)
    ·have hfin : partB k s n = true := by simp [partB, h1, h2, h7, h9]
     rw [noB] at h9; rw [h9] at he
     rw [hfin]; clear hfin HF h9
     go_enter Tryd.func36, Tryd.ntmps36
     go_wp2_with fail
     go_ret
     exact ret_b rfl rfl (HB.out _)
   ·have hfin : partB k s n = false := by simp [partB, h1, h2, h7]
    rw [hfin]; clear hfin he HF
    go_enter Tryd.func36, Tryd.ntmps36
    go_wp2_with fail
    go_ret
    exact ret_b rfl rfl (HB.out _)
 ·by_cases h7 : n = 0
  ·have h8 : ((n : Int) == 0) = true := by simp [h7]
   have hfin : partB k s n = freeB s := by simp [partB, h1, h7]
   rw [hfin]; clear hfin he h7
   go_enter Tryd.func36, Tryd.ntmps36
   go_wp2_with fail
   refine (HF.out _).mono ?_
   rintro e w1 ⟨rfl, hb1⟩
   go_wp2_with fail
   go_ret
   exact ret_b rfl rfl (below_step (HB.out _) hb1)
  ·have h8 : ((n : Int) == 0) = false := by simp; omega
   have hfin : partB k s n = false := by simp [partB, h1, h7]
   rw [hfin]; clear hfin he HF
   go_enter Tryd.func36, Tryd.ntmps36
   go_wp2_with fail
   go_ret
   exact ret_b rfl rfl (HB.out _)
end Go.Proofs.YtfflpdekojlnmaaDoor
