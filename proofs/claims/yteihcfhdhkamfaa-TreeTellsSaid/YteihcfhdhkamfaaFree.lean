/- name.Free -/
import Derived.Test.YteihcfhdhkamfaaName
namespace Go.Proofs.Yteihcfhdhkamfaa
open Go.RowKit

set_option maxRecDepth 100000 in
set_option maxHeartbeats 2000000 in
theorem free_any (s : ByteArray) (w : World) (hs : s.size ≤ maxLen) : Calls Try.prog 67 #[.string s] w (Ret w (.bool (freeB s))) := by
  have HV := Lib.hid (fun W => nvertex_any s W hs)
  have HB := Lib.hid (fun o => ((Below.refl w.heap.size w).alloc (Nat.le_refl _) o))
  have HW : Hid (∀ W1, Below (w.alloc (.cells (words.map Value.string).toArray 9)).heap.size (w.alloc (.cells (words.map Value.string).toArray 9)) W1 → Calls Try.prog 119 #[.slice (some ⟨w.heap.size, 0, none⟩) 7 7, .string s] W1 (RetS W1 (.bool (hasB words s)))) := fun W1 hb =>
    contains_any words _ s W1 (rdSl_block (rd := RdStr) (xs := words) (sz := 1) ((hb.block _ (by simp)).trans (heap_new w _)) (fun x => [Value.string x]) (fun x _ => rfl) (fun x _ => rfl) (by simp [List.flatMap, words]) rfl (by decide) (by unfold maxLen; decide))
  cases g1 : vertB s
  · rw [g1] at HV
    have hfin : freeB s = false := by simp [freeB, g1]
    rw [hfin]; clear hfin
    have G1 := Lib.hid g1; clear g1 HW
    go_enter Try.func67, Try.ntmps67
    go_wp2_with fail
    refine (HV.out _).mono ?_
    rintro e w1 ⟨rfl, hb1⟩
    go_wp2_with fail
    go_ret
    exact ret_b rfl rfl (below_step (HB.out _) hb1)
  · rw [g1] at HV
    obtain ⟨h0, _⟩ := vertB_size g1
    have hl := fun W => letter_any (firstI s) W
    have hfin : freeB s = (ltrI (firstI s) && !hasB words s) := by simp [freeB, g1, hasB]
    rw [hfin]; clear hfin
    have hfi : firstI s = ((s[0]'h0).toNat : Int) := by simp [firstI, h0]
    rw [hfi] at hl
    rw [hfi]
    have HL := Lib.hid hl; clear hl hfi
    have hby : (s[0]'h0).toNat < 256 := UInt8.toNat_lt _
    cases g2 : ltrI ((s[0]'h0).toNat : Int)
    · rw [g2] at HL
      rw [Bool.false_and]
      clear g2
      go_enter Try.func67, Try.ntmps67
      go_wp2_with fail
      refine (HV.out _).mono ?_
      rintro e w1 ⟨rfl, hb1⟩
      go_wp2_with fail
      refine (HL.out _).mono ?_
      rintro e w' ⟨rfl, rfl⟩
      go_wp2_with fail
      go_ret
      exact ret_b rfl rfl (below_step (HB.out _) hb1)
    · rw [g2] at HL
      rw [Bool.true_and]
      clear g2
      go_enter Try.func67, Try.ntmps67
      go_wp2_with fail
      refine (HV.out _).mono ?_
      rintro e w1 ⟨rfl, hb1⟩
      go_wp2_with fail
      refine (HL.out _).mono ?_
      rintro e w' ⟨rfl, rfl⟩
      go_wp2_with fail
      refine (HW.out _ hb1).mono ?_
      rintro e w' ⟨rfl, rfl⟩
      go_wp2_with fail
      go_ret
      exact ret_b rfl rfl (below_step (HB.out _) hb1)
end Go.Proofs.Yteihcfhdhkamfaa
