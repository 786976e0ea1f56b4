/- value.plain, value.Right, expr.part -/
import Derived.Test.YteihcfhdhkamfaaFree
namespace Go.Proofs.Yteihcfhdhkamfaa
open Go.RowKit

set_option maxRecDepth 100000 in
set_option maxHeartbeats 2000000 in
theorem plain_any (s : ByteArray) (w : World) (hs : s.size ≤ maxLen) : Calls Try.prog 120 #[.string s] w (RetS w (.bool (plainB s))) := by
  unfold maxLen at hs
  go_enter Try.func120, Try.ntmps120
  go_wp2_with fail
  go_loop [2, 7] (fun r i => r = .bool false ∧ ∃ k : Nat, i = .int .i64 k ∧ k ≤ s.size ∧ ∀ j (h : j < k) (h' : j < s.size), okByte s[j].toNat = true) (fun _ i => s.size - (intOf i).toNat)
  case atStart => exact ⟨rfl, 0, rfl, Nat.zero_le _, fun j h => by omega⟩
  case round =>
    obtain ⟨rfl, k, rfl, hk, hP⟩ := hrel
    have HP := Lib.hid hP; clear hP
    by_cases hlt : k < s.size
    · have HV := Lib.hid (@plainB_no s k hlt)
      have HS : Hid (∀ (hv : okByte (s[k]'hlt).toNat = true) j (h : j < k + 1) (h' : j < s.size), okByte s[j].toNat = true) := fun hv j h h' => by
        by_cases e : j = k
        · subst e; exact hv
        · exact HP.out j (by omega) h'
      have hc := okByte_cases (s[k]'hlt).toNat
      have hby : (s[k]'hlt).toNat < 256 := UInt8.toNat_lt _
      rcases hc with ⟨g1, g2⟩ | ⟨g1, g2, g3⟩ | ⟨g1, g2, g3, g4⟩ | ⟨g1, g2, g3, g4, g5⟩ | ⟨g1, g2, g3, g4, g5⟩
      · have HG := Lib.hid g2; clear g2
        go_wp2_with fail
        go_ret
        exact rets_b rfl (HV.out HG.out).symm
      · have HG := Lib.hid g3; clear g3
        go_wp2_with fail
        go_ret
        exact rets_b rfl (HV.out HG.out).symm
      · have HG := Lib.hid g4; clear g4
        go_wp2_with fail
        go_ret
        exact rets_b rfl (HV.out HG.out).symm
      · have HG := Lib.hid g5; clear g5
        go_wp2_with fail
        go_ret
        exact rets_b rfl (HV.out HG.out).symm
      · have HG := Lib.hid g5; clear g5
        go_wp2_with fail
        go_round
        case rel => exact ⟨rfl, k + 1, by go_num, by omega, HS.out HG.out⟩
        case measure => simp [intOf]; omega
    · go_wp2_with fail
      go_ret
      exact rets_b rfl (plainB_yes (fun j h => HP.out j (by omega) h)).symm

set_option maxRecDepth 100000 in
set_option maxHeartbeats 2000000 in
theorem valRight_any (v : Val) (w : World) (hs : v.text.size ≤ maxLen) : Calls Try.prog 68 #[.agg #[.int .i64 v.kind, .int .i64 v.num, .string v.text]] w (Ret w (.bool (valRight v))) := by
  obtain ⟨k, n, s⟩ := v
  simp only at hs
  have HP := Lib.hid (fun W => plain_any s W hs)
  have HB := Lib.hid (fun o => ((Below.refl w.heap.size w).alloc (Nat.le_refl _) o))
  have he := toList_isEmpty s
  cases h1 : k == 1
  · cases h2 : k == 2
    · have hfin : valRight ⟨k, n, s⟩ = false := by simp [valRight, h1, h2]
      rw [hfin]; clear hfin he HP
      go_enter Try.func68, Try.ntmps68
      go_wp2_with fail
      go_ret
      exact ret_b rfl rfl (HB.out _)
    · cases h3 : n == 0
      · have hfin : valRight ⟨k, n, s⟩ = false := by simp [valRight, h1, h2, h3]
        rw [hfin]; clear hfin he HP
        go_enter Try.func68, Try.ntmps68
        go_wp2_with fail
        go_ret
        exact ret_b rfl rfl (HB.out _)
      · by_cases h4 : s.size ≤ 40
        · have hfin : valRight ⟨k, n, s⟩ = plainB s := by simp [valRight, h1, h2, h3, h4]
          rw [hfin]; clear hfin he
          go_enter Try.func68, Try.ntmps68
          go_wp2_with fail
          refine (HP.out _).mono ?_
          rintro e w' ⟨rfl, rfl⟩
          go_wp2_with fail
          go_ret
          exact ret_b rfl rfl (HB.out _)
        · have hfin : valRight ⟨k, n, s⟩ = false := by simp [valRight, h1, h2, h3, h4]
          rw [hfin]; clear hfin he HP
          go_enter Try.func68, Try.ntmps68
          go_wp2_with fail
          go_ret
          exact ret_b rfl rfl (HB.out _)
  · cases h3 : noB s
    · have hfin : valRight ⟨k, n, s⟩ = false := by simp [valRight, h1, h3]
      rw [noB] at h3; rw [h3] at he
      rw [hfin]; clear hfin HP h3
      go_enter Try.func68, Try.ntmps68
      go_wp2_with fail
      go_ret
      exact ret_b rfl rfl (HB.out _)
    · by_cases h4 : -maxNumI ≤ n
      · have hfin : valRight ⟨k, n, s⟩ = decide (n ≤ maxNumI) := by simp [valRight, h1, h3, h4]
        rw [noB] at h3; rw [h3] at he
        rw [hfin]; clear hfin HP h3
        unfold maxNumI at h4 ⊢
        go_enter Try.func68, Try.ntmps68
        go_wp2_with fail
        go_ret
        exact ret_b rfl rfl (HB.out _)
      · have hfin : valRight ⟨k, n, s⟩ = false := by simp [valRight, h1, h3, h4]
        rw [noB] at h3; rw [h3] at he
        rw [hfin]; clear hfin HP h3
        unfold maxNumI at h4
        go_enter Try.func68, Try.ntmps68
        go_wp2_with fail
        go_ret
        exact ret_b rfl rfl (HB.out _)

set_option maxRecDepth 100000 in
set_option maxHeartbeats 4000000 in
theorem part_any (k : Int) (s : ByteArray) (p : Option Addr) (n c : Nat) (w : World) (hs : s.size ≤ maxLen) (hn : n ≤ maxLen) :
    Calls Try.prog 134 #[.agg #[.int .i64 k, .string s, .slice p n c]] w (Ret w (.bool (partB k s n))) := by
  have HF := Lib.hid (fun W => free_any s W hs)
  have HB := Lib.hid (fun o => ((Below.refl w.heap.size w).alloc (Nat.le_refl _) o))
  unfold maxLen at hs hn
  have he := toList_isEmpty s
  cases h1 : k == 1
  · cases h2 : k == 2
    · cases h3 : k == 3
      · cases h4 : k == 4
        · cases h5 : k == 5
          · cases h6 : k == 6
            · have hfin : partB k s n = false := by simp [partB, h1, h2, h3, h4, h5, h6]
              rw [hfin]; clear hfin he HF
              go_enter Try.func134, Try.ntmps134
              go_wp2_with fail
              go_ret
              exact ret_b rfl rfl (HB.out _)
            · skip
              by_cases h7 : n = 1
              · have h8 : ((n : Int) == 1) = true := by simp [h7]
                cases h9 : noB s
                · have hfin : partB k s n = false := by simp [partB, h1, h2, h3, h4, h5, h6, h7, h9]
                  rw [noB] at h9; rw [h9] at he
                  rw [hfin]; clear hfin HF h9
                  go_enter Try.func134, Try.ntmps134
                  go_wp2_with fail
                  go_ret
                  exact ret_b rfl rfl (HB.out _)
                · have hfin : partB k s n = true := by simp [partB, h1, h2, h3, h4, h5, h6, h7, h9]
                  rw [noB] at h9; rw [h9] at he
                  rw [hfin]; clear hfin HF h9
                  go_enter Try.func134, Try.ntmps134
                  go_wp2_with fail
                  go_ret
                  exact ret_b rfl rfl (HB.out _)
              · have h8 : ((n : Int) == 1) = false := by simp; omega
                have hfin : partB k s n = false := by simp [partB, h1, h2, h3, h4, h5, h6, h7]
                rw [hfin]; clear hfin he HF
                go_enter Try.func134, Try.ntmps134
                go_wp2_with fail
                go_ret
                exact ret_b rfl rfl (HB.out _)
          · skip
            by_cases h7 : n = 1
            · have h8 : ((n : Int) == 1) = true := by simp [h7]
              cases h9 : noB s
              · have hfin : partB k s n = false := by simp [partB, h1, h2, h3, h4, h5, h7, h9]
                rw [noB] at h9; rw [h9] at he
                rw [hfin]; clear hfin HF h9
                go_enter Try.func134, Try.ntmps134
                go_wp2_with fail
                go_ret
                exact ret_b rfl rfl (HB.out _)
              · have hfin : partB k s n = true := by simp [partB, h1, h2, h3, h4, h5, h7, h9]
                rw [noB] at h9; rw [h9] at he
                rw [hfin]; clear hfin HF h9
                go_enter Try.func134, Try.ntmps134
                go_wp2_with fail
                go_ret
                exact ret_b rfl rfl (HB.out _)
            · have h8 : ((n : Int) == 1) = false := by simp; omega
              have hfin : partB k s n = false := by simp [partB, h1, h2, h3, h4, h5, h7]
              rw [hfin]; clear hfin he HF
              go_enter Try.func134, Try.ntmps134
              go_wp2_with fail
              go_ret
              exact ret_b rfl rfl (HB.out _)
        · skip
          by_cases h7 : n = 1
          · have h8 : ((n : Int) == 1) = true := by simp [h7]
            cases h9 : noB s
            · have hfin : partB k s n = false := by simp [partB, h1, h2, h3, h4, h7, h9]
              rw [noB] at h9; rw [h9] at he
              rw [hfin]; clear hfin HF h9
              go_enter Try.func134, Try.ntmps134
              go_wp2_with fail
              go_ret
              exact ret_b rfl rfl (HB.out _)
            · have hfin : partB k s n = true := by simp [partB, h1, h2, h3, h4, h7, h9]
              rw [noB] at h9; rw [h9] at he
              rw [hfin]; clear hfin HF h9
              go_enter Try.func134, Try.ntmps134
              go_wp2_with fail
              go_ret
              exact ret_b rfl rfl (HB.out _)
          · have h8 : ((n : Int) == 1) = false := by simp; omega
            have hfin : partB k s n = false := by simp [partB, h1, h2, h3, h4, h7]
            rw [hfin]; clear hfin he HF
            go_enter Try.func134, Try.ntmps134
            go_wp2_with fail
            go_ret
            exact ret_b rfl rfl (HB.out _)
      · skip
        by_cases h7 : 1 < n
        · skip
          cases h9 : noB s
          · have hfin : partB k s n = false := by simp [partB, h1, h2, h3, h7, h9]
            rw [noB] at h9; rw [h9] at he
            rw [hfin]; clear hfin HF h9
            go_enter Try.func134, Try.ntmps134
            go_wp2_with fail
            go_ret
            exact ret_b rfl rfl (HB.out _)
          · have hfin : partB k s n = true := by simp [partB, h1, h2, h3, h7, h9]
            rw [noB] at h9; rw [h9] at he
            rw [hfin]; clear hfin HF h9
            go_enter Try.func134, Try.ntmps134
            go_wp2_with fail
            go_ret
            exact ret_b rfl rfl (HB.out _)
        · have hfin : partB k s n = false := by simp [partB, h1, h2, h3, h7]
          rw [hfin]; clear hfin he HF
          go_enter Try.func134, Try.ntmps134
          go_wp2_with fail
          go_ret
          exact ret_b rfl rfl (HB.out _)
    · skip
      by_cases h7 : 1 < n
      · skip
        cases h9 : noB s
        · have hfin : partB k s n = false := by simp [partB, h1, h2, h7, h9]
          rw [noB] at h9; rw [h9] at he
          rw [hfin]; clear hfin HF h9
          go_enter Try.func134, Try.ntmps134
          go_wp2_with fail
          go_ret
          exact ret_b rfl rfl (HB.out _)
        · have hfin : partB k s n = true := by simp [partB, h1, h2, h7, h9]
          rw [noB] at h9; rw [h9] at he
          rw [hfin]; clear hfin HF h9
          go_enter Try.func134, Try.ntmps134
          go_wp2_with fail
          go_ret
          exact ret_b rfl rfl (HB.out _)
      · have hfin : partB k s n = false := by simp [partB, h1, h2, h7]
        rw [hfin]; clear hfin he HF
        go_enter Try.func134, Try.ntmps134
        go_wp2_with fail
        go_ret
        exact ret_b rfl rfl (HB.out _)
  · by_cases h7 : n = 0
    · have h8 : ((n : Int) == 0) = true := by simp [h7]
      have hfin : partB k s n = freeB s := by simp [partB, h1, h7]
      rw [hfin]; clear hfin he h7
      go_enter Try.func134, Try.ntmps134
      go_wp2_with fail
      refine (HF.out _).mono ?_
      rintro e w1 ⟨rfl, hb1⟩
      go_wp2_with fail
      go_ret
      exact ret_b rfl rfl (below_step (HB.out _) hb1)
    · have h8 : ((n : Int) == 0) = false := by simp; omega
      have hfin : partB k s n = false := by simp [partB, h1, h7]
      rw [hfin]; clear hfin he HF
      go_enter Try.func134, Try.ntmps134
      go_wp2_with fail
      go_ret
      exact ret_b rfl rfl (HB.out _)
end Go.Proofs.Yteihcfhdhkamfaa

