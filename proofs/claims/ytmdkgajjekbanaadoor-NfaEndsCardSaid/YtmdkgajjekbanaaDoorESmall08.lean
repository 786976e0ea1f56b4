/- kinescopelaw08: small: the expression of a number. -/
import Derived.Test.YtmdkgajjekbanaaDoorELaw08
import Derived.Test.YtmdkgajjekbanaaDoorELens
set_option linter.unusedSimpArgs false
set_option linter.unusedVariables false
namespace Go.Proofs.YtmdkgajjekbanaaDoor
open Go.RowKit

def abB (n : Nat) : ByteArray := if n % 2 = 0 then ⟨#[97]⟩ else ⟨#[98]⟩
def labA (s : ByteArray) : List AV := [.v (.int .i64 1), .v (.string s), .v (.slice none 0 0)]
def ofA (k : Int) (kids : List (List AV)) : List AV := [.v (.int .i64 k), .v (.string ⟨#[]⟩), .slc 3 kids kids.length]
def smA : Nat → Nat → List AV
 | 0, n => labA (abB n)
 | d + 1, n => if n % 8 < 2 then labA (abB n) else
  if n % 8 = 2 then ofA 2 [smA d (n / 8), smA d (n / 64)] else
  if n % 8 = 3 then ofA 2 [smA d (n / 8), ofA 6 [labA ⟨#[99]⟩], ofA 4 [labA ⟨#[100]⟩], smA d (n / 64)] else
  if n % 8 = 4 then ofA 3 [smA d (n / 8), smA d (n / 64)] else
  if n % 8 = 5 then ofA 4 [smA d (n / 8)] else
  if n % 8 = 6 then ofA 5 [smA d (n / 8)] else ofA 6 [smA d (n / 8)]
def labX (s : ByteArray) : Ex := .mk 1 s []
def ofX (k : Int) (kids : List Ex) : Ex := .mk k ⟨#[]⟩ kids
def smX : Nat → Nat → Ex
 | 0, n => labX (abB n)
 | d + 1, n => if n % 8 < 2 then labX (abB n) else
  if n % 8 = 2 then ofX 2 [smX d (n / 8), smX d (n / 64)] else
  if n % 8 = 3 then ofX 2 [smX d (n / 8), ofX 6 [labX ⟨#[99]⟩], ofX 4 [labX ⟨#[100]⟩], smX d (n / 64)] else
  if n % 8 = 4 then ofX 3 [smX d (n / 8), smX d (n / 64)] else
  if n % 8 = 5 then ofX 4 [smX d (n / 8)] else
  if n % 8 = 6 then ofX 5 [smX d (n / 8)] else ofX 6 [smX d (n / 8)]
theorem le_labA (s : ByteArray) : LeL (labA s) (encE (labX s)) := by
 rw [labX, encE_eq]
 exact .cons (.refl _) (.cons (.refl _) (.cons (.nil 3) .nil))
theorem le_ofA (k : Int) : ∀ {rows : List (List AV)} {kids : List Ex}, rows.length = kids.length → (∀ (i : Nat) r x, rows[i]? = some r → kids[i]? = some x → LeL r (encE x)) → LeL (ofA k rows) (encE (ofX k kids)) := fun {rows kids} hl h => by
 rw [ofX, encE_eq, ofA]
 refine .cons (.refl _) (.cons (.refl _) (.cons ?_ .nil))
 have key : ∀ (i : Nat) r r', rows[i]? = some r → (kids.map encE)[i]? = some r' → LeL r r' := fun i r r' h1 h2 => by
  rw [List.getElem?_map] at h2
  cases hk : kids[i]? with
  | none => rw [hk] at h2; cases h2
  | some x => rw [hk] at h2; cases h2; exact h i r x h1 hk
 simp only [Ex.kids]
 rw [← hl]
 exact .slc 3 _ _ _ (by simp [hl]) (by simp [hl]) (fun i r r' h1 h2 => (key i r r' h1 h2).1) (fun i j r r' c c' h1 h2 h3 h4 => (key i r r' h1 h2).2 j c c' h3 h4)
theorem le_of1 (k : Int) {a : List AV} {x : Ex} (h : LeL a (encE x)) : LeL (ofA k [a]) (encE (ofX k [x])) := le_ofA k rfl fun i r y h1 h2 => by
 match i, h1, h2 with
 | 0, h1, h2 => cases h1; cases h2; exact h
 | i + 1, h1, h2 => simp at h1
theorem le_of2 (k : Int) {a b : List AV} {x y : Ex} (h : LeL a (encE x)) (h2 : LeL b (encE y)) : LeL (ofA k [a, b]) (encE (ofX k [x, y])) := le_ofA k rfl fun i r z h1 h3 => by
 match i, h1, h3 with
 | 0, h1, h3 => cases h1; cases h3; exact h
 | 1, h1, h3 => cases h1; cases h3; exact h2
 | i + 2, h1, h3 => simp at h1
theorem le_of4 (k : Int) {a b c d : List AV} {x y z u : Ex} (h : LeL a (encE x)) (h2 : LeL b (encE y)) (h3 : LeL c (encE z)) (h4 : LeL d (encE u)) : LeL (ofA k [a, b, c, d]) (encE (ofX k [x, y, z, u])) := le_ofA k rfl fun i r v h5 h6 => by
 match i, h5, h6 with
 | 0, h5, h6 => cases h5; cases h6; exact h
 | 1, h5, h6 => cases h5; cases h6; exact h2
 | 2, h5, h6 => cases h5; cases h6; exact h3
 | 3, h5, h6 => cases h5; cases h6; exact h4
 | i + 4, h5, h6 => simp at h5
theorem le_smA : ∀ (d n : Nat), LeL (smA d n) (encE (smX d n))
 | 0, n => le_labA _
 | d + 1, n => by
  rw [smA, smX]
  have h1 := le_smA d (n / 8)
  have h2 := le_smA d (n / 64)
  split
  ·exact le_labA _
  split
  ·exact le_of2 2 h1 h2
  split
  ·exact le_of4 2 h1 (le_of1 6 (le_labA _)) (le_of1 4 (le_labA _)) h2
  split
  ·exact le_of2 3 h1 h2
  split
  ·exact le_of1 4 h1
  split
  ·exact le_of1 5 h1
  ·exact le_of1 6 h1
theorem wf_labA (n : Nat) (s : ByteArray) : wfL n (labA s) = true := rfl
theorem wf_ofA (n : Nat) (k : Int) (rows : List (List AV)) (h : wfR n rows = true) : wfL n (ofA k rows) = true := by simp only [ofA, wfL, AV.wf, h, Bool.and_self]
theorem wf_smA (m : Nat) : ∀ (d n : Nat), wfL m (smA d n) = true
 | 0, n => rfl
 | d + 1, n => by
  have h1 := wf_smA m d (n / 8)
  have h2 := wf_smA m d (n / 64)
  rw [smA]
  (repeat' split) <;> first | rfl | exact wf_ofA _ _ _ (by simp only [wfR, h1, h2, wf_labA, wf_ofA, Bool.and_self])
theorem abB_ok (n : Nat) : okT (abB n) := by unfold abB okT; split <;> decide
theorem labX_ok {s : ByteArray} (h : okT s) : (labX s).ok := by
 simp only [labX, Ex.ok, exsOk]; exact ⟨h, trivial⟩
theorem ofX_ok (k : Int) {l : List Ex} (h : exsOk l) : (ofX k l).ok := by
 simp only [ofX, Ex.ok]; exact ⟨by unfold okT; decide, h⟩
theorem smX_ok : ∀ (d n : Nat), (smX d n).ok
 | 0, n => labX_ok (abB_ok n)
 | d + 1, n => by
  have h1 := smX_ok d (n / 8)
  have h2 := smX_ok d (n / 64)
  have h3 : (labX ⟨#[99]⟩).ok := labX_ok (by unfold okT; decide)
  have h4 : (labX ⟨#[100]⟩).ok := labX_ok (by unfold okT; decide)
  rw [smX]
  (repeat' split) <;> first | exact labX_ok (abB_ok n) | (refine ofX_ok _ ?_; simp only [exsOk]; first | exact ⟨h1, trivial⟩ | exact ⟨h1, h2, trivial⟩ | exact ⟨h1, ofX_ok _ ⟨h3, trivial⟩, ofX_ok _ ⟨h4, trivial⟩, h2, trivial⟩)
theorem tmodN (n k : Nat) : (n : Int).tmod (k : Int) = ((n % k : Nat) : Int) := (Int.ofNat_tmod n k).symm
theorem tdivN (n k : Nat) : (n : Int).tdiv (k : Int) = ((n / k : Nat) : Int) := (Int.ofNat_tdiv n k).symm
theorem abB_at (n : Nat) : List.getD [[AV.v (.string ⟨#[97]⟩)], [.v (.string ⟨#[98]⟩)]] (n % 2) [] = [.v (.string (abB n))] := by
 unfold abB
 rcases Nat.mod_two_eq_zero_or_one n with h | h <;> rw [h] <;> rfl
theorem smA_three : ∀ (d n : Nat), ∃ a b c, smA d n = [a, b, c]
 | 0, n => ⟨_, _, _, rfl⟩
 | d + 1, n => by
  rw [smA]
  (repeat' split) <;> exact ⟨_, _, _, rfl⟩
theorem wf_row1 {n : Nat} {a : List AV} (h : wfL n a = true) : wfR n [a] = true := by simp [wfR, h]
theorem wf_row2 {n : Nat} {a b : List AV} (h : wfL n a = true) (k : wfL n b = true) : wfR n [a, b] = true := by simp [wfR, h, k]
theorem wf_row4 {n : Nat} {a b c d : List AV} (h : wfL n a = true) (k : wfL n b = true) (h2 : wfL n c = true) (k2 : wfL n d = true) : wfR n [a, b, c, d] = true := by simp [wfR, h, k, h2, k2]
set_option maxRecDepth 100000 in
set_option maxHeartbeats 4000000 in
theorem small_c : ∀ (d n : Nat), d ≤ 2 → n < 100000 → Call1 Tryd.prog 33 [.v (.int .i64 n), .v (.int .i64 d)] (.agg (smA d n))
 | 0, n, _, hn => by
  have L := llabel08_c (abB n)
  have hd0 : (((0 : Nat) : Int) == 0) = true := rfl
  have eM : (n : Int).tmod 2 = ((n % 2 : Nat) : Int) := tmodN n 2
  have eG := abB_at n
  simp only [smA, labA]
  (refine Call1.enter Tryd.func33 rfl (by kernel_rfl) (by kernel_rfl) rfl (by first | rfl | (simp only [go_sem, Bool.and_self, Bool.and_true, Bool.true_and])) (by first | rfl | (simp only [go_sem, Bool.and_self, Bool.and_true, Bool.true_and])) ?_; simp only [Tryd.ntmps33, Tryd.results33, List.length_cons, List.length_nil, Nat.reduceAdd, Nat.reduceSub, List.replicate_succ, List.replicate_zero, List.cons_append, List.nil_append])
  repeat (first | (with_reducible first | refine Stp.up ?_ | refine fun (K : AK) hK => ?_ | refine wE ?_ | refine wK ?_ | refine wF ?_ | (refine hK _ ?_; clear hK K)) | simp only [go_sem, hd0, eM, eG, Go.undef] | with_reducible refine wA ?_ | clear hK K)
  refine ACallV.one L ?_
  repeat (first | (with_reducible first | refine Stp.up ?_ | refine fun (K : AK) hK => ?_ | refine wE ?_ | refine wK ?_ | refine wF ?_ | (refine hK _ ?_; clear hK K)) | simp only [go_sem, hd0, eM, eG, Go.undef] | with_reducible refine wA ?_ | clear hK K)
  (refine AFz.of 40 rfl ?_; simp only [go_sem])
 | d + 1, n, hd, hn => by
  have hd0 : (((d + 1 : Nat) : Int) == 0) = false := beq_false_of_ne (by omega)
  have eM : (n : Int).tmod 8 = ((n % 8 : Nat) : Int) := tmodN n 8
  have eM2 : (n : Int).tmod 2 = ((n % 2 : Nat) : Int) := tmodN n 2
  have eQ : (n : Int).tdiv 8 = ((n / 8 : Nat) : Int) := tdivN n 8
  have eQ2 : (n : Int).tdiv 64 = ((n / 64 : Nat) : Int) := tdivN n 64
  have eG := abB_at n
  have eW : IntKind.i64.wrap (((d + 1 : Nat) : Int) - 1) = (d : Int) := by rw [wrap_id (by omega) (by omega)]; omega
  have L := llabel08_c (abB n)
  have L3 := llabel08_c ⟨#[99]⟩
  have L4 := llabel08_c ⟨#[100]⟩
  have C1 := small_c d (n / 8) (by omega) (by omega)
  have C2 := small_c d (n / 64) (by omega) (by omega)
  have eWQ : IntKind.i64.wrap ((n / 8 : Nat) : Int) = ((n / 8 : Nat) : Int) := wrap_id (by omega) (by omega)
  have eWQ2 : IntKind.i64.wrap ((n / 64 : Nat) : Int) = ((n / 64 : Nat) : Int) := wrap_id (by omega) (by omega)
  have w1 : wfL 0 (smA d (n / 8)) = true := wf_smA 0 d (n / 8)
  have w2 : wfL 0 (smA d (n / 64)) = true := wf_smA 0 d (n / 64)
  rw [smA]
  obtain ⟨p1, p2, p3, hx1⟩ := smA_three d (n / 8)
  obtain ⟨r1, r2, r3, hx2⟩ := smA_three d (n / 64)
  rw [hx1] at C1 w1 ⊢
  rw [hx2] at C2 w2 ⊢
  obtain ⟨u1, u2, u3⟩ : p1.wf 0 = true ∧ p2.wf 0 = true ∧ p3.wf 0 = true := by simpa [wfL] using w1
  obtain ⟨v1, v2, v3⟩ : r1.wf 0 = true ∧ r2.wf 0 = true ∧ r3.wf 0 = true := by simpa [wfL] using w2
  by_cases h0 : n % 8 < 2
  ·have g0 : decide (((n % 8 : Nat) : Int) < 2) = true := decide_eq_true (by omega)
   rw [if_pos h0]
   simp only [labA]
   (refine Call1.enter Tryd.func33 rfl (by kernel_rfl) (by kernel_rfl) rfl (by first | rfl | (simp only [go_sem, Bool.and_self, Bool.and_true, Bool.true_and])) (by first | rfl | (simp only [go_sem, Bool.and_self, Bool.and_true, Bool.true_and])) ?_; simp only [Tryd.ntmps33, Tryd.results33, List.length_cons, List.length_nil, Nat.reduceAdd, Nat.reduceSub, List.replicate_succ, List.replicate_zero, List.cons_append, List.nil_append])
   repeat (first | (with_reducible first | refine Stp.up ?_ | refine fun (K : AK) hK => ?_ | refine wE ?_ | refine wK ?_ | refine wF ?_ | (refine hK _ ?_; clear hK K)) | simp only [go_sem, hd0, eM, eM2, g0, eG, Go.undef] | with_reducible refine wA ?_ | clear hK K)
   refine ACallV.one L ?_
   repeat (first | (with_reducible first | refine Stp.up ?_ | refine fun (K : AK) hK => ?_ | refine wE ?_ | refine wK ?_ | refine wF ?_ | (refine hK _ ?_; clear hK K)) | simp only [go_sem, hd0, eM, eG, Go.undef] | with_reducible refine wA ?_ | clear hK K)
   (refine AFz.of 40 rfl ?_; simp only [go_sem])
  have g0 : decide (((n % 8 : Nat) : Int) < 2) = false := decide_eq_false (by omega)
  rw [if_neg h0]
  by_cases h2 : n % 8 = 2
  ·rw [if_pos h2]
   have q2 : (((n % 8 : Nat) : Int) == 2) = true := beq_iff_eq.2 (by omega)
   have q3 : (((n % 8 : Nat) : Int) == 3) = false := beq_false_of_ne (by omega)
   have q4 : (((n % 8 : Nat) : Int) == 4) = false := beq_false_of_ne (by omega)
   have q5 : (((n % 8 : Nat) : Int) == 5) = false := beq_false_of_ne (by omega)
   have q6 : (((n % 8 : Nat) : Int) == 6) = false := beq_false_of_ne (by omega)
   simp only [ofA]
   have O := lof08_c 2 [[p1, p2, p3], [r1, r2, r3]] 2 (wf_row2 w1 w2)
   (refine Call1.enter Tryd.func33 rfl (by kernel_rfl) (by kernel_rfl) rfl (by simp only [go_sem, wfL, AV.wf, Bool.and_self, Bool.and_true, Bool.true_and, w1, w2, u1, u2, u3, v1, v2, v3, wfR]) (by simp only [go_sem, wfL, AV.wf, wf_encS, Bool.and_self, Bool.and_true, Bool.true_and, w1, w2, u1, u2, u3, v1, v2, v3, wfR]) ?_; simp only [Tryd.ntmps33, Tryd.results33, List.length_cons, List.length_nil, Nat.reduceAdd, Nat.reduceSub, List.replicate_succ, List.replicate_zero, List.cons_append, List.nil_append])
   repeat (first | (with_reducible first | refine Stp.up ?_ | refine fun (K : AK) hK => ?_ | refine wE ?_ | refine wK ?_ | refine wF ?_ | (refine hK _ ?_; clear hK K)) | simp only [go_sem, hd0, eM, g0, eQ, eQ2, eW, eWQ, eWQ2, u1, u2, u3, v1, v2, v3, q2, q3, q4, q5, q6, Go.undef] | with_reducible refine wA ?_ | clear hK K)
   refine ACallV.one C1 ?_
   repeat (first | (with_reducible first | refine Stp.up ?_ | refine fun (K : AK) hK => ?_ | refine wE ?_ | refine wK ?_ | refine wF ?_ | (refine hK _ ?_; clear hK K)) | simp only [go_sem, hd0, eM, g0, eQ, eQ2, eW, eWQ, eWQ2, u1, u2, u3, v1, v2, v3, q2, q3, q4, q5, q6, Go.undef] | with_reducible refine wA ?_ | clear hK K)
   refine ACallV.one C2 ?_
   repeat (first | (with_reducible first | refine Stp.up ?_ | refine fun (K : AK) hK => ?_ | refine wE ?_ | refine wK ?_ | refine wF ?_ | (refine hK _ ?_; clear hK K)) | simp only [go_sem, hd0, eM, g0, eQ, eQ2, eW, eWQ, eWQ2, u1, u2, u3, v1, v2, v3, q2, q3, q4, q5, q6, Go.undef] | with_reducible refine wA ?_ | clear hK K)
   refine ACallV.give O rfl (by simp only [go_sem, Nat.reduceLT, Nat.reduceLeDiff, Nat.reduceEqDiff, Nat.lt_add_one, Nat.zero_lt_one, and_self, u1, u2, u3, v1, v2, v3, wfR, wfL]) ?_
   repeat (first | (with_reducible first | refine Stp.up ?_ | refine fun (K : AK) hK => ?_ | refine wE ?_ | refine wK ?_ | refine wF ?_ | (refine hK _ ?_; clear hK K)) | simp only [go_sem, hd0, eM, g0, eQ, eQ2, eW, eWQ, eWQ2, u1, u2, u3, v1, v2, v3, q2, q3, q4, q5, q6, Go.undef] | with_reducible refine wA ?_ | clear hK K)
   refine AFz.of 40 rfl ?_
   simp only [go_sem, wfR, wfL, AV.wf, u1, u2, u3, v1, v2, v3, Bool.and_self]
  rw [if_neg h2]
  by_cases h3 : n % 8 = 3
  ·rw [if_pos h3]
   have q2 : (((n % 8 : Nat) : Int) == 2) = false := beq_false_of_ne (by omega)
   have q3 : (((n % 8 : Nat) : Int) == 3) = true := beq_iff_eq.2 (by omega)
   have q4 : (((n % 8 : Nat) : Int) == 4) = false := beq_false_of_ne (by omega)
   have q5 : (((n % 8 : Nat) : Int) == 5) = false := beq_false_of_ne (by omega)
   have q6 : (((n % 8 : Nat) : Int) == 6) = false := beq_false_of_ne (by omega)
   simp only [ofA, labA]
   have O1 := lof08_c 6 [[.v (.int .i64 1), .v (.string ⟨#[99]⟩), .v (.slice none 0 0)]] 1 rfl
   have O2 := lof08_c 4 [[.v (.int .i64 1), .v (.string ⟨#[100]⟩), .v (.slice none 0 0)]] 1 rfl
   have O := lof08_c 2 [[p1, p2, p3], [.v (.int .i64 6), .v (.string ⟨#[]⟩), .slc 3 [[.v (.int .i64 1), .v (.string ⟨#[99]⟩), .v (.slice none 0 0)]] 1], [.v (.int .i64 4), .v (.string ⟨#[]⟩), .slc 3 [[.v (.int .i64 1), .v (.string ⟨#[100]⟩), .v (.slice none 0 0)]] 1], [r1, r2, r3]] 4 (wf_row4 w1 rfl rfl w2)
   (refine Call1.enter Tryd.func33 rfl (by kernel_rfl) (by kernel_rfl) rfl (by simp only [go_sem, wfL, AV.wf, Bool.and_self, Bool.and_true, Bool.true_and, w1, w2, u1, u2, u3, v1, v2, v3, wfR]) (by simp only [go_sem, wfL, AV.wf, wf_encS, Bool.and_self, Bool.and_true, Bool.true_and, w1, w2, u1, u2, u3, v1, v2, v3, wfR]) ?_; simp only [Tryd.ntmps33, Tryd.results33, List.length_cons, List.length_nil, Nat.reduceAdd, Nat.reduceSub, List.replicate_succ, List.replicate_zero, List.cons_append, List.nil_append])
   repeat (first | (with_reducible first | refine Stp.up ?_ | refine fun (K : AK) hK => ?_ | refine wE ?_ | refine wK ?_ | refine wF ?_ | (refine hK _ ?_; clear hK K)) | simp only [go_sem, hd0, eM, g0, eQ, eQ2, eW, eWQ, eWQ2, u1, u2, u3, v1, v2, v3, q2, q3, q4, q5, q6, Go.undef] | with_reducible refine wA ?_ | clear hK K)
   refine ACallV.one C1 ?_
   repeat (first | (with_reducible first | refine Stp.up ?_ | refine fun (K : AK) hK => ?_ | refine wE ?_ | refine wK ?_ | refine wF ?_ | (refine hK _ ?_; clear hK K)) | simp only [go_sem, hd0, eM, g0, eQ, eQ2, eW, eWQ, eWQ2, u1, u2, u3, v1, v2, v3, q2, q3, q4, q5, q6, Go.undef] | with_reducible refine wA ?_ | clear hK K)
   refine ACallV.one C2 ?_
   repeat (first | (with_reducible first | refine Stp.up ?_ | refine fun (K : AK) hK => ?_ | refine wE ?_ | refine wK ?_ | refine wF ?_ | (refine hK _ ?_; clear hK K)) | simp only [go_sem, hd0, eM, g0, eQ, eQ2, eW, eWQ, eWQ2, u1, u2, u3, v1, v2, v3, q2, q3, q4, q5, q6, Go.undef] | with_reducible refine wA ?_ | clear hK K)
   refine ACallS.one L3 ?_
   repeat (first | (with_reducible first | refine Stp.up ?_ | refine fun (K : AK) hK => ?_ | refine wE ?_ | refine wK ?_ | refine wF ?_ | (refine hK _ ?_; clear hK K)) | simp only [go_sem, hd0, eM, g0, eQ, eQ2, eW, eWQ, eWQ2, u1, u2, u3, v1, v2, v3, q2, q3, q4, q5, q6, Go.undef] | with_reducible refine wA ?_ | clear hK K)
   refine ACallS.one O1 ?_
   repeat (first | (with_reducible first | refine Stp.up ?_ | refine fun (K : AK) hK => ?_ | refine wE ?_ | refine wK ?_ | refine wF ?_ | (refine hK _ ?_; clear hK K)) | simp only [go_sem, hd0, eM, g0, eQ, eQ2, eW, eWQ, eWQ2, u1, u2, u3, v1, v2, v3, q2, q3, q4, q5, q6, Go.undef] | with_reducible refine wA ?_ | clear hK K)
   refine ACallS.one L4 ?_
   repeat (first | (with_reducible first | refine Stp.up ?_ | refine fun (K : AK) hK => ?_ | refine wE ?_ | refine wK ?_ | refine wF ?_ | (refine hK _ ?_; clear hK K)) | simp only [go_sem, hd0, eM, g0, eQ, eQ2, eW, eWQ, eWQ2, u1, u2, u3, v1, v2, v3, q2, q3, q4, q5, q6, Go.undef] | with_reducible refine wA ?_ | clear hK K)
   refine ACallS.one O2 ?_
   repeat (first | (with_reducible first | refine Stp.up ?_ | refine fun (K : AK) hK => ?_ | refine wE ?_ | refine wK ?_ | refine wF ?_ | (refine hK _ ?_; clear hK K)) | simp only [go_sem, hd0, eM, g0, eQ, eQ2, eW, eWQ, eWQ2, u1, u2, u3, v1, v2, v3, q2, q3, q4, q5, q6, Go.undef] | with_reducible refine wA ?_ | clear hK K)
   refine ACallS.one O ?_
   repeat (first | (with_reducible first | refine Stp.up ?_ | refine fun (K : AK) hK => ?_ | refine wE ?_ | refine wK ?_ | refine wF ?_ | (refine hK _ ?_; clear hK K)) | simp only [go_sem, hd0, eM, g0, eQ, eQ2, eW, eWQ, eWQ2, u1, u2, u3, v1, v2, v3, q2, q3, q4, q5, q6, Go.undef] | with_reducible refine wA ?_ | clear hK K)
   refine AFz.of 40 rfl ?_
   simp only [go_sem, wfR, wfL, AV.wf, u1, u2, u3, v1, v2, v3, Bool.and_self]
  rw [if_neg h3]
  by_cases h4 : n % 8 = 4
  ·rw [if_pos h4]
   have q2 : (((n % 8 : Nat) : Int) == 2) = false := beq_false_of_ne (by omega)
   have q3 : (((n % 8 : Nat) : Int) == 3) = false := beq_false_of_ne (by omega)
   have q4 : (((n % 8 : Nat) : Int) == 4) = true := beq_iff_eq.2 (by omega)
   have q5 : (((n % 8 : Nat) : Int) == 5) = false := beq_false_of_ne (by omega)
   have q6 : (((n % 8 : Nat) : Int) == 6) = false := beq_false_of_ne (by omega)
   simp only [ofA]
   have O := lof08_c 3 [[p1, p2, p3], [r1, r2, r3]] 2 (wf_row2 w1 w2)
   (refine Call1.enter Tryd.func33 rfl (by kernel_rfl) (by kernel_rfl) rfl (by simp only [go_sem, wfL, AV.wf, Bool.and_self, Bool.and_true, Bool.true_and, w1, w2, u1, u2, u3, v1, v2, v3, wfR]) (by simp only [go_sem, wfL, AV.wf, wf_encS, Bool.and_self, Bool.and_true, Bool.true_and, w1, w2, u1, u2, u3, v1, v2, v3, wfR]) ?_; simp only [Tryd.ntmps33, Tryd.results33, List.length_cons, List.length_nil, Nat.reduceAdd, Nat.reduceSub, List.replicate_succ, List.replicate_zero, List.cons_append, List.nil_append])
   repeat (first | (with_reducible first | refine Stp.up ?_ | refine fun (K : AK) hK => ?_ | refine wE ?_ | refine wK ?_ | refine wF ?_ | (refine hK _ ?_; clear hK K)) | simp only [go_sem, hd0, eM, g0, eQ, eQ2, eW, eWQ, eWQ2, u1, u2, u3, v1, v2, v3, q2, q3, q4, q5, q6, Go.undef] | with_reducible refine wA ?_ | clear hK K)
   refine ACallV.one C1 ?_
   repeat (first | (with_reducible first | refine Stp.up ?_ | refine fun (K : AK) hK => ?_ | refine wE ?_ | refine wK ?_ | refine wF ?_ | (refine hK _ ?_; clear hK K)) | simp only [go_sem, hd0, eM, g0, eQ, eQ2, eW, eWQ, eWQ2, u1, u2, u3, v1, v2, v3, q2, q3, q4, q5, q6, Go.undef] | with_reducible refine wA ?_ | clear hK K)
   refine ACallV.one C2 ?_
   repeat (first | (with_reducible first | refine Stp.up ?_ | refine fun (K : AK) hK => ?_ | refine wE ?_ | refine wK ?_ | refine wF ?_ | (refine hK _ ?_; clear hK K)) | simp only [go_sem, hd0, eM, g0, eQ, eQ2, eW, eWQ, eWQ2, u1, u2, u3, v1, v2, v3, q2, q3, q4, q5, q6, Go.undef] | with_reducible refine wA ?_ | clear hK K)
   refine ACallV.give O rfl (by simp only [go_sem, Nat.reduceLT, Nat.reduceLeDiff, Nat.reduceEqDiff, Nat.lt_add_one, Nat.zero_lt_one, and_self, u1, u2, u3, v1, v2, v3, wfR, wfL]) ?_
   repeat (first | (with_reducible first | refine Stp.up ?_ | refine fun (K : AK) hK => ?_ | refine wE ?_ | refine wK ?_ | refine wF ?_ | (refine hK _ ?_; clear hK K)) | simp only [go_sem, hd0, eM, g0, eQ, eQ2, eW, eWQ, eWQ2, u1, u2, u3, v1, v2, v3, q2, q3, q4, q5, q6, Go.undef] | with_reducible refine wA ?_ | clear hK K)
   refine AFz.of 40 rfl ?_
   simp only [go_sem, wfR, wfL, AV.wf, u1, u2, u3, v1, v2, v3, Bool.and_self]
  rw [if_neg h4]
  by_cases h5 : n % 8 = 5
  ·rw [if_pos h5]
   have q2 : (((n % 8 : Nat) : Int) == 2) = false := beq_false_of_ne (by omega)
   have q3 : (((n % 8 : Nat) : Int) == 3) = false := beq_false_of_ne (by omega)
   have q4 : (((n % 8 : Nat) : Int) == 4) = false := beq_false_of_ne (by omega)
   have q5 : (((n % 8 : Nat) : Int) == 5) = true := beq_iff_eq.2 (by omega)
   have q6 : (((n % 8 : Nat) : Int) == 6) = false := beq_false_of_ne (by omega)
   simp only [ofA]
   have O := lof08_c 4 [[p1, p2, p3]] 1 (wf_row1 w1)
   (refine Call1.enter Tryd.func33 rfl (by kernel_rfl) (by kernel_rfl) rfl (by simp only [go_sem, wfL, AV.wf, Bool.and_self, Bool.and_true, Bool.true_and, w1, w2, u1, u2, u3, v1, v2, v3, wfR]) (by simp only [go_sem, wfL, AV.wf, wf_encS, Bool.and_self, Bool.and_true, Bool.true_and, w1, w2, u1, u2, u3, v1, v2, v3, wfR]) ?_; simp only [Tryd.ntmps33, Tryd.results33, List.length_cons, List.length_nil, Nat.reduceAdd, Nat.reduceSub, List.replicate_succ, List.replicate_zero, List.cons_append, List.nil_append])
   repeat (first | (with_reducible first | refine Stp.up ?_ | refine fun (K : AK) hK => ?_ | refine wE ?_ | refine wK ?_ | refine wF ?_ | (refine hK _ ?_; clear hK K)) | simp only [go_sem, hd0, eM, g0, eQ, eQ2, eW, eWQ, eWQ2, u1, u2, u3, v1, v2, v3, q2, q3, q4, q5, q6, Go.undef] | with_reducible refine wA ?_ | clear hK K)
   refine ACallV.one C1 ?_
   repeat (first | (with_reducible first | refine Stp.up ?_ | refine fun (K : AK) hK => ?_ | refine wE ?_ | refine wK ?_ | refine wF ?_ | (refine hK _ ?_; clear hK K)) | simp only [go_sem, hd0, eM, g0, eQ, eQ2, eW, eWQ, eWQ2, u1, u2, u3, v1, v2, v3, q2, q3, q4, q5, q6, Go.undef] | with_reducible refine wA ?_ | clear hK K)
   refine ACallV.one C2 ?_
   repeat (first | (with_reducible first | refine Stp.up ?_ | refine fun (K : AK) hK => ?_ | refine wE ?_ | refine wK ?_ | refine wF ?_ | (refine hK _ ?_; clear hK K)) | simp only [go_sem, hd0, eM, g0, eQ, eQ2, eW, eWQ, eWQ2, u1, u2, u3, v1, v2, v3, q2, q3, q4, q5, q6, Go.undef] | with_reducible refine wA ?_ | clear hK K)
   refine ACallV.give O rfl (by simp only [go_sem, Nat.reduceLT, Nat.reduceLeDiff, Nat.reduceEqDiff, Nat.lt_add_one, Nat.zero_lt_one, and_self, u1, u2, u3, v1, v2, v3, wfR, wfL]) ?_
   repeat (first | (with_reducible first | refine Stp.up ?_ | refine fun (K : AK) hK => ?_ | refine wE ?_ | refine wK ?_ | refine wF ?_ | (refine hK _ ?_; clear hK K)) | simp only [go_sem, hd0, eM, g0, eQ, eQ2, eW, eWQ, eWQ2, u1, u2, u3, v1, v2, v3, q2, q3, q4, q5, q6, Go.undef] | with_reducible refine wA ?_ | clear hK K)
   refine AFz.of 40 rfl ?_
   simp only [go_sem, wfR, wfL, AV.wf, u1, u2, u3, v1, v2, v3, Bool.and_self]
  rw [if_neg h5]
  by_cases h6 : n % 8 = 6
  ·rw [if_pos h6]
   have q2 : (((n % 8 : Nat) : Int) == 2) = false := beq_false_of_ne (by omega)
   have q3 : (((n % 8 : Nat) : Int) == 3) = false := beq_false_of_ne (by omega)
   have q4 : (((n % 8 : Nat) : Int) == 4) = false := beq_false_of_ne (by omega)
   have q5 : (((n % 8 : Nat) : Int) == 5) = false := beq_false_of_ne (by omega)
   have q6 : (((n % 8 : Nat) : Int) == 6) = true := beq_iff_eq.2 (by omega)
   simp only [ofA]
   have O := lof08_c 5 [[p1, p2, p3]] 1 (wf_row1 w1)
   (refine Call1.enter Tryd.func33 rfl (by kernel_rfl) (by kernel_rfl) rfl (by simp only [go_sem, wfL, AV.wf, Bool.and_self, Bool.and_true, Bool.true_and, w1, w2, u1, u2, u3, v1, v2, v3, wfR]) (by simp only [go_sem, wfL, AV.wf, wf_encS, Bool.and_self, Bool.and_true, Bool.true_and, w1, w2, u1, u2, u3, v1, v2, v3, wfR]) ?_; simp only [Tryd.ntmps33, Tryd.results33, List.length_cons, List.length_nil, Nat.reduceAdd, Nat.reduceSub, List.replicate_succ, List.replicate_zero, List.cons_append, List.nil_append])
   repeat (first | (with_reducible first | refine Stp.up ?_ | refine fun (K : AK) hK => ?_ | refine wE ?_ | refine wK ?_ | refine wF ?_ | (refine hK _ ?_; clear hK K)) | simp only [go_sem, hd0, eM, g0, eQ, eQ2, eW, eWQ, eWQ2, u1, u2, u3, v1, v2, v3, q2, q3, q4, q5, q6, Go.undef] | with_reducible refine wA ?_ | clear hK K)
   refine ACallV.one C1 ?_
   repeat (first | (with_reducible first | refine Stp.up ?_ | refine fun (K : AK) hK => ?_ | refine wE ?_ | refine wK ?_ | refine wF ?_ | (refine hK _ ?_; clear hK K)) | simp only [go_sem, hd0, eM, g0, eQ, eQ2, eW, eWQ, eWQ2, u1, u2, u3, v1, v2, v3, q2, q3, q4, q5, q6, Go.undef] | with_reducible refine wA ?_ | clear hK K)
   refine ACallV.one C2 ?_
   repeat (first | (with_reducible first | refine Stp.up ?_ | refine fun (K : AK) hK => ?_ | refine wE ?_ | refine wK ?_ | refine wF ?_ | (refine hK _ ?_; clear hK K)) | simp only [go_sem, hd0, eM, g0, eQ, eQ2, eW, eWQ, eWQ2, u1, u2, u3, v1, v2, v3, q2, q3, q4, q5, q6, Go.undef] | with_reducible refine wA ?_ | clear hK K)
   refine ACallV.give O rfl (by simp only [go_sem, Nat.reduceLT, Nat.reduceLeDiff, Nat.reduceEqDiff, Nat.lt_add_one, Nat.zero_lt_one, and_self, u1, u2, u3, v1, v2, v3, wfR, wfL]) ?_
   repeat (first | (with_reducible first | refine Stp.up ?_ | refine fun (K : AK) hK => ?_ | refine wE ?_ | refine wK ?_ | refine wF ?_ | (refine hK _ ?_; clear hK K)) | simp only [go_sem, hd0, eM, g0, eQ, eQ2, eW, eWQ, eWQ2, u1, u2, u3, v1, v2, v3, q2, q3, q4, q5, q6, Go.undef] | with_reducible refine wA ?_ | clear hK K)
   refine AFz.of 40 rfl ?_
   simp only [go_sem, wfR, wfL, AV.wf, u1, u2, u3, v1, v2, v3, Bool.and_self]
  rw [if_neg h6]
  have q2 : (((n % 8 : Nat) : Int) == 2) = false := beq_false_of_ne (by omega)
  have q3 : (((n % 8 : Nat) : Int) == 3) = false := beq_false_of_ne (by omega)
  have q4 : (((n % 8 : Nat) : Int) == 4) = false := beq_false_of_ne (by omega)
  have q5 : (((n % 8 : Nat) : Int) == 5) = false := beq_false_of_ne (by omega)
  have q6 : (((n % 8 : Nat) : Int) == 6) = false := beq_false_of_ne (by omega)
  simp only [ofA]
  have O := lof08_c 6 [[p1, p2, p3]] 1 (wf_row1 w1)
  (refine Call1.enter Tryd.func33 rfl (by kernel_rfl) (by kernel_rfl) rfl (by simp only [go_sem, wfL, AV.wf, Bool.and_self, Bool.and_true, Bool.true_and, w1, w2, u1, u2, u3, v1, v2, v3, wfR]) (by simp only [go_sem, wfL, AV.wf, wf_encS, Bool.and_self, Bool.and_true, Bool.true_and, w1, w2, u1, u2, u3, v1, v2, v3, wfR]) ?_; simp only [Tryd.ntmps33, Tryd.results33, List.length_cons, List.length_nil, Nat.reduceAdd, Nat.reduceSub, List.replicate_succ, List.replicate_zero, List.cons_append, List.nil_append])
  repeat (first | (with_reducible first | refine Stp.up ?_ | refine fun (K : AK) hK => ?_ | refine wE ?_ | refine wK ?_ | refine wF ?_ | (refine hK _ ?_; clear hK K)) | simp only [go_sem, hd0, eM, g0, eQ, eQ2, eW, eWQ, eWQ2, u1, u2, u3, v1, v2, v3, q2, q3, q4, q5, q6, Go.undef] | with_reducible refine wA ?_ | clear hK K)
  refine ACallV.one C1 ?_
  repeat (first | (with_reducible first | refine Stp.up ?_ | refine fun (K : AK) hK => ?_ | refine wE ?_ | refine wK ?_ | refine wF ?_ | (refine hK _ ?_; clear hK K)) | simp only [go_sem, hd0, eM, g0, eQ, eQ2, eW, eWQ, eWQ2, u1, u2, u3, v1, v2, v3, q2, q3, q4, q5, q6, Go.undef] | with_reducible refine wA ?_ | clear hK K)
  refine ACallV.one C2 ?_
  repeat (first | (with_reducible first | refine Stp.up ?_ | refine fun (K : AK) hK => ?_ | refine wE ?_ | refine wK ?_ | refine wF ?_ | (refine hK _ ?_; clear hK K)) | simp only [go_sem, hd0, eM, g0, eQ, eQ2, eW, eWQ, eWQ2, u1, u2, u3, v1, v2, v3, q2, q3, q4, q5, q6, Go.undef] | with_reducible refine wA ?_ | clear hK K)
  refine ACallV.give O rfl (by simp only [go_sem, Nat.reduceLT, Nat.reduceLeDiff, Nat.reduceEqDiff, Nat.lt_add_one, Nat.zero_lt_one, and_self, u1, u2, u3, v1, v2, v3, wfR, wfL]) ?_
  repeat (first | (with_reducible first | refine Stp.up ?_ | refine fun (K : AK) hK => ?_ | refine wE ?_ | refine wK ?_ | refine wF ?_ | (refine hK _ ?_; clear hK K)) | simp only [go_sem, hd0, eM, g0, eQ, eQ2, eW, eWQ, eWQ2, u1, u2, u3, v1, v2, v3, q2, q3, q4, q5, q6, Go.undef] | with_reducible refine wA ?_ | clear hK K)
  refine AFz.of 40 rfl ?_
  simp only [go_sem, wfR, wfL, AV.wf, u1, u2, u3, v1, v2, v3, Bool.and_self]
end Go.Proofs.YtmdkgajjekbanaaDoor
