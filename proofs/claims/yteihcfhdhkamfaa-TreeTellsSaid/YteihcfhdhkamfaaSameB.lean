/- Loops that hold two slices against each other, element by element: texts, conditions, operands (kinescopekit.Same.., slices.Equal). -/
import Derived.Test.YteihcfhdhkamfaaFlat
import Derived.Test.YteihcfhdhkamfaaBase2
import Derived.StillTailTactics
namespace Go.Proofs.Yteihcfhdhkamfaa
open Go.RowKit

set_option maxRecDepth 100000 in
set_option maxHeartbeats 2000000 in
theorem sameConds_any (xs ys : List Cnd) (vx vy : Value) (w : World) (h1 : RdCnds w xs vx) (h2 : RdCnds w ys vy) :
    Calls Try.prog 81 #[vx, vy] w (Ret w (.bool (all2 Cnd.eqb xs ys))) := by
  obtain ⟨p, c, rfl, hc1, hc2⟩ := h1.shape
  obtain ⟨q, d, rfl, hd1, hd2⟩ := h2.shape
  unfold maxLen at hc2 hd2
  by_cases hl : xs.length = ys.length
  · have H1 := Lib.hid h1; have H2 := Lib.hid h2; have HL := Lib.hid hl
    skip
    have hne : (((xs.length : Nat) : Int) != ((ys.length : Nat) : Int)) = false := by simp [hl]
    clear h1 h2 hl
    go_enter Try.func81, Try.ntmps81
    go_wp2_with fail
    go_loopw [4, 5] (fun r i wr => ∃ k : Nat, k ≤ xs.length ∧ r = .bool false ∧ i = .int .i64 k ∧ Below w.heap.size w wr ∧ ∀ j (h : j < k) (h' : j < xs.length) (h'' : j < ys.length), Cnd.eqb xs[j] ys[j] = true) (fun _ i _ => xs.length - (intOf i).toNat)
    case atStart => exact ⟨0, Nat.zero_le _, rfl, rfl, Below.refl _ _, fun j h => by omega⟩
    case round =>
      obtain ⟨k, hk, rfl, rfl, hb, hP⟩ := hrel
      have HP := Lib.hid hP; clear hP
      by_cases hlt : k < xs.length
      · have hlt2 : k < ys.length := by have := HL.out; omega
        obtain ⟨b1, o1, rfl, a0, a1, a2, a3, a4, a5, a6, a7, a8, a9, a10, a11, a12⟩ := rdCnds_at (H1.out.below hb) hlt
        obtain ⟨b2, o2, rfl, c0, c1, c2, c3, c4, c5, c6, c7, c8, c9, c10, c11, c12⟩ := rdCnds_at (H2.out.below hb) hlt2
        have hq := fun w => neq_cnd xs[k] ys[k] w
        cases hs : Cnd.eqb xs[k] ys[k]
        · rw [hs, Bool.not_false] at hq
          have HS := Lib.hid hs; clear hs
          go_wp2_with fail
          go_still (by kernel_rfl)
          go_wp2_with fail
          go_ret
          exact ret_b rfl (all2_at hlt hlt2 HS.out).symm hb.drew
        · rw [hs, Bool.not_true] at hq
          have HS := Lib.hid hs; clear hs
          go_wp2_with fail
          go_still (by kernel_rfl)
          go_wp2_with fail
          go_roundw
          case rel => exact ⟨k + 1, by omega, rfl, by go_num, hb.drew, fun j h h' h'' => by
            by_cases e : j = k
            · subst e; exact HS.out
            · exact HP.out j (by omega) h' h''⟩
          case measure => simp [intOf]; omega
      · go_wp2_with fail
        go_ret
        have hk' : k = xs.length := by omega
        exact ret_b rfl (all2_iff.2 ⟨HL.out, fun i h h' => HP.out i (by omega) h h'⟩).symm hb
  · have hne : (((xs.length : Nat) : Int) != ((ys.length : Nat) : Int)) = true := by simp; omega
    clear h1 h2
    rw [all2_len hl]
    clear hl
    go_enter Try.func81, Try.ntmps81
    go_wp2_with fail
    go_ret
    exact ret_b rfl rfl (Below.refl _ _)


set_option maxRecDepth 100000 in
set_option maxHeartbeats 2000000 in
theorem sameOperands_any (xs ys : List Opd) (vx vy : Value) (w : World) (h1 : RdOpds w xs vx) (h2 : RdOpds w ys vy) :
    Calls Try.prog 82 #[vx, vy] w (Ret w (.bool (all2 Opd.eqb xs ys))) := by
  obtain ⟨p, c, rfl, hc1, hc2⟩ := h1.shape
  obtain ⟨q, d, rfl, hd1, hd2⟩ := h2.shape
  unfold maxLen at hc2 hd2
  by_cases hl : xs.length = ys.length
  · have H1 := Lib.hid h1; have H2 := Lib.hid h2; have HL := Lib.hid hl
    skip
    have hne : (((xs.length : Nat) : Int) != ((ys.length : Nat) : Int)) = false := by simp [hl]
    clear h1 h2 hl
    go_enter Try.func82, Try.ntmps82
    go_wp2_with fail
    go_loopw [4, 5] (fun r i wr => ∃ k : Nat, k ≤ xs.length ∧ r = .bool false ∧ i = .int .i64 k ∧ Below w.heap.size w wr ∧ ∀ j (h : j < k) (h' : j < xs.length) (h'' : j < ys.length), Opd.eqb xs[j] ys[j] = true) (fun _ i _ => xs.length - (intOf i).toNat)
    case atStart => exact ⟨0, Nat.zero_le _, rfl, rfl, Below.refl _ _, fun j h => by omega⟩
    case round =>
      obtain ⟨k, hk, rfl, rfl, hb, hP⟩ := hrel
      have HP := Lib.hid hP; clear hP
      by_cases hlt : k < xs.length
      · have hlt2 : k < ys.length := by have := HL.out; omega
        obtain ⟨b1, o1, rfl, a0, a1, a2, a3, a4, a5⟩ := rdOpds_at (H1.out.below hb) hlt
        obtain ⟨b2, o2, rfl, c0, c1, c2, c3, c4, c5⟩ := rdOpds_at (H2.out.below hb) hlt2
        have hq := fun w => neq_opd xs[k] ys[k] w
        cases hs : Opd.eqb xs[k] ys[k]
        · rw [hs, Bool.not_false] at hq
          have HS := Lib.hid hs; clear hs
          go_wp2_with fail
          go_still (by kernel_rfl)
          go_wp2_with fail
          go_ret
          exact ret_b rfl (all2_at hlt hlt2 HS.out).symm hb.drew
        · rw [hs, Bool.not_true] at hq
          have HS := Lib.hid hs; clear hs
          go_wp2_with fail
          go_still (by kernel_rfl)
          go_wp2_with fail
          go_roundw
          case rel => exact ⟨k + 1, by omega, rfl, by go_num, hb.drew, fun j h h' h'' => by
            by_cases e : j = k
            · subst e; exact HS.out
            · exact HP.out j (by omega) h' h''⟩
          case measure => simp [intOf]; omega
      · go_wp2_with fail
        go_ret
        have hk' : k = xs.length := by omega
        exact ret_b rfl (all2_iff.2 ⟨HL.out, fun i h h' => HP.out i (by omega) h h'⟩).symm hb
  · have hne : (((xs.length : Nat) : Int) != ((ys.length : Nat) : Int)) = true := by simp; omega
    clear h1 h2
    rw [all2_len hl]
    clear hl
    go_enter Try.func82, Try.ntmps82
    go_wp2_with fail
    go_ret
    exact ret_b rfl rfl (Below.refl _ _)


set_option maxRecDepth 100000 in
set_option maxHeartbeats 2000000 in
theorem sameTexts_any (xs ys : List ByteArray) (vx vy : Value) (w : World) (h1 : RdStrs w xs vx) (h2 : RdStrs w ys vy) :
    Calls Try.prog 22 #[vx, vy] w (Ret w (.bool (all2 seqb xs ys))) := by
  obtain ⟨p, c, rfl, hc1, hc2⟩ := h1.shape
  obtain ⟨q, d, rfl, hd1, hd2⟩ := h2.shape
  unfold maxLen at hc2 hd2
  by_cases hl : xs.length = ys.length
  · have H1 := Lib.hid h1; have H2 := Lib.hid h2; have HL := Lib.hid hl
    skip
    have hne : (((xs.length : Nat) : Int) != ((ys.length : Nat) : Int)) = false := by simp [hl]
    clear h1 h2 hl
    go_enter Try.func22, Try.ntmps22
    go_wp2_with fail
    go_loopw [4, 5] (fun r i wr => ∃ k : Nat, k ≤ xs.length ∧ r = .bool false ∧ i = .int .i64 k ∧ Below w.heap.size w wr ∧ ∀ j (h : j < k) (h' : j < xs.length) (h'' : j < ys.length), seqb xs[j] ys[j] = true) (fun _ i _ => xs.length - (intOf i).toNat)
    case atStart => exact ⟨0, Nat.zero_le _, rfl, rfl, Below.refl _ _, fun j h => by omega⟩
    case round =>
      obtain ⟨k, hk, rfl, rfl, hb, hP⟩ := hrel
      have HP := Lib.hid hP; clear hP
      by_cases hlt : k < xs.length
      · have hlt2 : k < ys.length := by have := HL.out; omega
        obtain ⟨b1, o1, rfl, a0⟩ := rdStrs_at (H1.out.below hb) hlt
        obtain ⟨b2, o2, rfl, c0⟩ := rdStrs_at (H2.out.below hb) hlt2
        cases hs : seqb xs[k] ys[k]
        · have HS := Lib.hid hs
          unfold seqb at hs
          go_wp2_with fail
          go_still (by kernel_rfl)
          go_wp2_with fail
          go_ret
          exact ret_b rfl (all2_at hlt hlt2 HS.out).symm hb.drew
        · have HS := Lib.hid hs
          unfold seqb at hs
          go_wp2_with fail
          go_still (by kernel_rfl)
          go_wp2_with fail
          go_roundw
          case rel => exact ⟨k + 1, by omega, rfl, by go_num, hb.drew, fun j h h' h'' => by
            by_cases e : j = k
            · subst e; exact HS.out
            · exact HP.out j (by omega) h' h''⟩
          case measure => simp [intOf]; omega
      · go_wp2_with fail
        go_ret
        have hk' : k = xs.length := by omega
        exact ret_b rfl (all2_iff.2 ⟨HL.out, fun i h h' => HP.out i (by omega) h h'⟩).symm hb
  · have hne : (((xs.length : Nat) : Int) != ((ys.length : Nat) : Int)) = true := by simp; omega
    clear h1 h2
    rw [all2_len hl]
    clear hl
    go_enter Try.func22, Try.ntmps22
    go_wp2_with fail
    go_ret
    exact ret_b rfl rfl (Below.refl _ _)


set_option maxRecDepth 100000 in
set_option maxHeartbeats 2000000 in
theorem equalConds_any (xs ys : List Cnd) (vx vy : Value) (w : World) (h1 : RdCnds w xs vx) (h2 : RdCnds w ys vy) :
    Calls Try.prog 64 #[vx, vy] w (Ret w (.bool (all2 Cnd.eqb xs ys))) := by
  obtain ⟨p, c, rfl, hc1, hc2⟩ := h1.shape
  obtain ⟨q, d, rfl, hd1, hd2⟩ := h2.shape
  unfold maxLen at hc2 hd2
  by_cases hl : xs.length = ys.length
  · have H1 := Lib.hid h1; have H2 := Lib.hid h2; have HL := Lib.hid hl
    skip
    have hne : (((xs.length : Nat) : Int) != ((ys.length : Nat) : Int)) = false := by simp [hl]
    clear h1 h2 hl
    go_enter Try.func64, Try.ntmps64
    go_wp2_with fail
    go_loopw [4, 13] (fun r i wr => ∃ k : Nat, k ≤ xs.length ∧ r = .bool false ∧ i = .int .i64 k ∧ Below w.heap.size w wr ∧ ∀ j (h : j < k) (h' : j < xs.length) (h'' : j < ys.length), Cnd.eqb xs[j] ys[j] = true) (fun _ i _ => xs.length - (intOf i).toNat)
    case atStart => exact ⟨0, Nat.zero_le _, rfl, rfl, Below.refl _ _, fun j h => by omega⟩
    case round =>
      obtain ⟨k, hk, rfl, rfl, hb, hP⟩ := hrel
      have HP := Lib.hid hP; clear hP
      by_cases hlt : k < xs.length
      · have hlt2 : k < ys.length := by have := HL.out; omega
        obtain ⟨b1, o1, rfl, a0, a1, a2, a3, a4, a5, a6, a7, a8, a9, a10, a11, a12⟩ := rdCnds_at (H1.out.below hb) hlt
        obtain ⟨b2, o2, rfl, c0, c1, c2, c3, c4, c5, c6, c7, c8, c9, c10, c11, c12⟩ := rdCnds_at (H2.out.below hb) hlt2
        have hq := fun w => neq_cnd xs[k] ys[k] w
        cases hs : Cnd.eqb xs[k] ys[k]
        · rw [hs, Bool.not_false] at hq
          have HS := Lib.hid hs; clear hs
          go_wp2_with fail
          go_still (by kernel_rfl)
          go_wp2_with fail
          go_ret
          exact ret_b rfl (all2_at hlt hlt2 HS.out).symm hb.drew
        · rw [hs, Bool.not_true] at hq
          have HS := Lib.hid hs; clear hs
          go_wp2_with fail
          go_still (by kernel_rfl)
          go_wp2_with fail
          go_roundw
          case rel => exact ⟨k + 1, by omega, rfl, by go_num, hb.drew, fun j h h' h'' => by
            by_cases e : j = k
            · subst e; exact HS.out
            · exact HP.out j (by omega) h' h''⟩
          case measure => simp [intOf]; omega
      · go_wp2_with fail
        go_ret
        have hk' : k = xs.length := by omega
        exact ret_b rfl (all2_iff.2 ⟨HL.out, fun i h h' => HP.out i (by omega) h h'⟩).symm hb
  · have hne : (((xs.length : Nat) : Int) != ((ys.length : Nat) : Int)) = true := by simp; omega
    clear h1 h2
    rw [all2_len hl]
    clear hl
    go_enter Try.func64, Try.ntmps64
    go_wp2_with fail
    go_ret
    exact ret_b rfl rfl (Below.refl _ _)


set_option maxRecDepth 100000 in
set_option maxHeartbeats 2000000 in
theorem equalOpds_any (xs ys : List Opd) (vx vy : Value) (w : World) (h1 : RdOpds w xs vx) (h2 : RdOpds w ys vy) :
    Calls Try.prog 65 #[vx, vy] w (Ret w (.bool (all2 Opd.eqb xs ys))) := by
  obtain ⟨p, c, rfl, hc1, hc2⟩ := h1.shape
  obtain ⟨q, d, rfl, hd1, hd2⟩ := h2.shape
  unfold maxLen at hc2 hd2
  by_cases hl : xs.length = ys.length
  · have H1 := Lib.hid h1; have H2 := Lib.hid h2; have HL := Lib.hid hl
    skip
    have hne : (((xs.length : Nat) : Int) != ((ys.length : Nat) : Int)) = false := by simp [hl]
    clear h1 h2 hl
    go_enter Try.func65, Try.ntmps65
    go_wp2_with fail
    go_loopw [4, 13] (fun r i wr => ∃ k : Nat, k ≤ xs.length ∧ r = .bool false ∧ i = .int .i64 k ∧ Below w.heap.size w wr ∧ ∀ j (h : j < k) (h' : j < xs.length) (h'' : j < ys.length), Opd.eqb xs[j] ys[j] = true) (fun _ i _ => xs.length - (intOf i).toNat)
    case atStart => exact ⟨0, Nat.zero_le _, rfl, rfl, Below.refl _ _, fun j h => by omega⟩
    case round =>
      obtain ⟨k, hk, rfl, rfl, hb, hP⟩ := hrel
      have HP := Lib.hid hP; clear hP
      by_cases hlt : k < xs.length
      · have hlt2 : k < ys.length := by have := HL.out; omega
        obtain ⟨b1, o1, rfl, a0, a1, a2, a3, a4, a5⟩ := rdOpds_at (H1.out.below hb) hlt
        obtain ⟨b2, o2, rfl, c0, c1, c2, c3, c4, c5⟩ := rdOpds_at (H2.out.below hb) hlt2
        have hq := fun w => neq_opd xs[k] ys[k] w
        cases hs : Opd.eqb xs[k] ys[k]
        · rw [hs, Bool.not_false] at hq
          have HS := Lib.hid hs; clear hs
          go_wp2_with fail
          go_still (by kernel_rfl)
          go_wp2_with fail
          go_ret
          exact ret_b rfl (all2_at hlt hlt2 HS.out).symm hb.drew
        · rw [hs, Bool.not_true] at hq
          have HS := Lib.hid hs; clear hs
          go_wp2_with fail
          go_still (by kernel_rfl)
          go_wp2_with fail
          go_roundw
          case rel => exact ⟨k + 1, by omega, rfl, by go_num, hb.drew, fun j h h' h'' => by
            by_cases e : j = k
            · subst e; exact HS.out
            · exact HP.out j (by omega) h' h''⟩
          case measure => simp [intOf]; omega
      · go_wp2_with fail
        go_ret
        have hk' : k = xs.length := by omega
        exact ret_b rfl (all2_iff.2 ⟨HL.out, fun i h h' => HP.out i (by omega) h h'⟩).symm hb
  · have hne : (((xs.length : Nat) : Int) != ((ys.length : Nat) : Int)) = true := by simp; omega
    clear h1 h2
    rw [all2_len hl]
    clear hl
    go_enter Try.func65, Try.ntmps65
    go_wp2_with fail
    go_ret
    exact ret_b rfl rfl (Below.refl _ _)

end Go.Proofs.Yteihcfhdhkamfaa
