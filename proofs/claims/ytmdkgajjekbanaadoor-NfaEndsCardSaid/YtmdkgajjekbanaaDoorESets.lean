/- Masks of 32 bits: sets of positions; math/bits.TrailingZeros32 and nfa's iterator over a set. -/
import Derived.Test.YtmdkgajjekbanaaDoorEExprC
import Derived.Test.YtmdkgajjekbanaaDoorERef02
import Derived.Test.YtmdkgajjekbanaaDoorRows
import Derived.Test.YtmdkgajjekbanaaDoorEOpenX
import Derived.LaidMore
import Derived.OpenShut
set_option linter.unusedSimpArgs false
set_option linter.unusedVariables false
namespace Go.Proofs.YtmdkgajjekbanaaDoor
open Go.RowKit

theorem wrap_msk (n : Int) : IntKind.u32.wrap n = n % 4294967296 := by simp [IntKind.wrap, IntKind.signed, IntKind.bits]
theorem u32_of (m : BitVec 32) : IntKind.u32.wrap (m.toNat : Int) = m.toNat := by
 rw [wrap_msk]; have := m.isLt; omega
theorem ofInt_msk (m : BitVec 32) : BitVec.ofInt 32 (m.toNat : Int) = m := by
 simp
theorem msk_sub (m : BitVec 32) : IntKind.u32.wrap ((m.toNat : Int) - 1) = (m - 1#32).toNat := by
 rw [wrap_msk, BitVec.toNat_sub]; have := m.isLt; simp; omega
theorem msk_neg (m : BitVec 32) : IntKind.u32.wrap (0 - (m.toNat : Int)) = (-m).toNat := by
 rw [wrap_msk, BitVec.toNat_neg]; have := m.isLt; omega
theorem msk_mul (m : BitVec 32) : IntKind.u32.wrap ((m.toNat : Int) * 125613361) = (m * 125613361#32).toNat := by
 rw [wrap_msk, BitVec.toNat_mul]; simp
theorem msk_shr (m : BitVec 32) : (m.toNat : Int).fdiv (2 ^ min 27 32) = (m >>> 27).toNat := by
 show (m.toNat : Int).fdiv (2 ^ 27) = _
 rw [BitVec.toNat_ushiftRight, Nat.shiftRight_eq_div_pow]; simp [Int.fdiv_eq_ediv_of_nonneg]
theorem msk_shl (p : Nat) : IntKind.u32.wrap (1 * 2 ^ p) = (1#32 <<< p).toNat := by
 rw [wrap_msk, BitVec.toNat_shiftLeft, Nat.shiftLeft_eq]; simp
theorem msk_pos (m : BitVec 32) : decide ((0 : Int) < (m.toNat : Int)) = (m != 0#32) := by
 by_cases h : m = 0#32
 ·subst h; simp
 ·have e : m.toNat ≠ 0 := fun e => h (BitVec.eq_of_toNat_eq (by simpa using e))
  rw [bne_iff_ne.2 h]; exact decide_eq_true (by omega)
theorem msk_zero (m : BitVec 32) : ((m.toNat : Int) == 0) = (m == 0#32) := by
 by_cases h : m = 0#32
 ·subst h; simp
 ·have e : m.toNat ≠ 0 := fun e => h (BitVec.eq_of_toNat_eq (by simpa using e))
  rw [beq_eq_false_iff_ne.2 h]; exact beq_eq_false_iff_ne.2 (by omega)
theorem msk_and (m n : BitVec 32) : iAnd .u32 m.toNat n.toNat = (m &&& n).toNat := by
 rw [iAnd]; show IntKind.u32.wrap ((BitVec.ofInt 32 _ &&& BitVec.ofInt 32 _).toNat : Int) = _
 rw [ofInt_msk, ofInt_msk, u32_of]
theorem msk_or (m n : BitVec 32) : iOr .u32 m.toNat n.toNat = (m ||| n).toNat := by
 rw [iOr]; show IntKind.u32.wrap ((BitVec.ofInt 32 _ ||| BitVec.ofInt 32 _).toNat : Int) = _
 rw [ofInt_msk, ofInt_msk, u32_of]
theorem msk_not (m n : BitVec 32) : iAndNot .u32 m.toNat n.toNat = (m &&& ~~~ n).toNat := by
 rw [iAndNot]; show IntKind.u32.wrap ((BitVec.ofInt 32 _ &&& ~~~ BitVec.ofInt 32 _).toNat : Int) = _
 rw [ofInt_msk, ofInt_msk, u32_of]
def bitsM (m : BitVec 32) : List Nat := (List.range 32).filter m.getLsbD
theorem bitsM_mem {m : BitVec 32} {p : Nat} : p ∈ bitsM m ↔ m.getLsbD p = true := by
 simp only [bitsM, List.mem_filter, List.mem_range]
 exact ⟨fun h => h.2, fun h => ⟨BitVec.lt_of_getLsbD h, h⟩⟩
theorem bitsM_rise (m : BitVec 32) : (bitsM m).Pairwise (· < ·) := List.pairwise_lt_range.filter _
theorem bitsM_len (m : BitVec 32) : (bitsM m).length ≤ 32 := by
 have := List.length_filter_le m.getLsbD (List.range 32)
 simpa [bitsM] using this
theorem bitsM_zero : bitsM 0#32 = [] := by simp [bitsM]
theorem bitsM_nil {m : BitVec 32} (h : bitsM m = []) : m = 0#32 := by
 refine BitVec.eq_of_getLsbD_eq fun i hi => ?_
 cases hb : m.getLsbD i with
 | false => simp
 | true => have := bitsM_mem.2 hb; rw [h] at this; cases this
theorem low_bits {m : BitVec 32} {p : Nat} {r : List Nat} (h : bitsM m = p :: r) : m.getLsbD p = true ∧ p < 32 ∧ (∀ j, j < p → m.getLsbD j = false) ∧ ∀ j, j ∈ r ↔ (m.getLsbD j = true ∧ p < j) := by
 have hm : m.getLsbD p = true := bitsM_mem.1 (by rw [h]; simp)
 have hr := bitsM_rise m
 rw [h, List.pairwise_cons] at hr
 refine ⟨hm, BitVec.lt_of_getLsbD hm, fun j hj => ?_, fun j => ⟨fun hj => ⟨bitsM_mem.1 (by rw [h]; exact List.mem_cons_of_mem _ hj), hr.1 j hj⟩, fun hj => ?_⟩⟩
 ·cases hb : m.getLsbD j with
  | false => rfl
  | true =>
   have := bitsM_mem.2 hb
   rw [h, List.mem_cons] at this
   rcases this with rfl | hh
   ·omega
   ·have := hr.1 j hh; omega
 ·have := bitsM_mem.2 hj.1
  rw [h, List.mem_cons] at this
  rcases this with rfl | hh
  ·omega
  ·exact hh
theorem low_one {m : BitVec 32} {p : Nat} {r : List Nat} (h : bitsM m = p :: r) : m &&& -m = 1#32 <<< p := by
 obtain ⟨h1, h2, h3, h4⟩ := low_bits h
 refine BitVec.eq_of_getLsbD_eq fun i hi => ?_
 rw [BitVec.getLsbD_and, BitVec.getLsbD_neg, BitVec.getLsbD_shiftLeft, BitVec.getLsbD_one]
 rcases Nat.lt_trichotomy i p with q | q | q
 ·simp [h3 i q, q]
 ·subst q
  have : ¬ ∃ j, j < i ∧ m.getLsbD j = true := fun ⟨j, a, b⟩ => by rw [h3 j a] at b; cases b
  rw [h1, decide_eq_false this]; simp [hi]
 ·have : ∃ j, j < i ∧ m.getLsbD j = true := ⟨p, q, h1⟩
  have e : i - p ≠ 0 := by omega
  simp [this, hi, e]
theorem low_rest {m : BitVec 32} {p : Nat} {r : List Nat} (h : bitsM m = p :: r) : bitsM (m &&& (m - 1#32)) = r := by
 obtain ⟨h1, h2, h3, h4⟩ := low_bits h
 have hr := bitsM_rise m
 rw [h, List.pairwise_cons] at hr
 have key : ∀ j, (m &&& (m - 1#32)).getLsbD j = true ↔ j ∈ r := fun j => by
  rw [h4, ← BitVec.not_neg, BitVec.getLsbD_and, BitVec.getLsbD_not, BitVec.getLsbD_neg]
  rcases Nat.lt_or_ge p j with q | q
  ·have : ∃ k, k < j ∧ m.getLsbD k = true := ⟨p, q, h1⟩
   by_cases hj : m.getLsbD j = true
   ·have := BitVec.lt_of_getLsbD hj
    simp_all
   ·simp_all
  ·by_cases hj : m.getLsbD j = true
   ·have e : j = p := by
     rcases Nat.lt_or_ge j p with a | a
     ·rw [h3 j a] at hj; cases hj
     ·omega
    subst e
    have : ¬ ∃ k, k < j ∧ m.getLsbD k = true := fun ⟨k, a, b⟩ => by rw [h3 k a] at b; cases b
    rw [h1, decide_eq_false this]; simp [h2]
   ·simp_all
 exact rise_ext (bitsM_rise _) hr.2 (fun j => bitsM_mem.trans (key j))

def encM (m : BitVec 32) : AV := .v (.int .u32 m.toNat)
def tab32 : List Int := [0, 1, 28, 2, 29, 14, 24, 3, 30, 22, 20, 15, 25, 17, 4, 8, 31, 27, 13, 23, 21, 19, 16, 7, 26, 12, 18, 6, 11, 5, 10, 9]
theorem tab_at : ∀ p : Nat, p < 32 → tab32[((1#32 <<< p * 125613361#32) >>> 27).toNat]? = some (p : Int) := by decide
theorem ev_tab (s : AS) : s.ev (.global 0) = .vp (tab32.map fun i => .v (.int .u8 i)) := rfl
theorem drop_at {l : List Int} {f : Int → AV} {n : Nat} {x : Int} (e : l[n]? = some x) : ∃ r, (l.map f).drop n = f x :: r := by
 obtain ⟨h1, h2⟩ := List.getElem?_eq_some_iff.1 e
 exact ⟨_, by rw [List.drop_eq_getElem_cons (by simpa using h1), List.getElem_map, h2]⟩
theorem tab_drop {p : Nat} (hp : p < 32) : ∃ n r, ((1#32 <<< p * 125613361#32) >>> 27).toNat = n ∧ n < 32 ∧ (tab32.map fun i => AV.v (.int .u8 i)).drop n = .v (.int .u8 p) :: r := by
 have e := tab_at p hp
 generalize ((1#32 <<< p * 125613361#32) >>> 27).toNat = n at *
 obtain ⟨r, h⟩ := drop_at (f := fun i => AV.v (.int .u8 i)) e
 exact ⟨n, r, rfl, (List.getElem?_eq_some_iff.1 e).1, h⟩
theorem tz_num {m : BitVec 32} {p : Nat} {r : List Nat} (h : bitsM m = p :: r) : ∃ (M N1 N2 N3 : Int) (n : Nat) (r' : List AV), (m.toNat : Int) = M ∧ (M == 0) = false ∧ IntKind.u32.wrap (0 - M) = N1 ∧ iAnd .u32 M N1 = N2 ∧ IntKind.u32.wrap (N2 * 125613361) = N3 ∧
  N3.fdiv (2 ^ min 27 32) = n ∧ n < 32 ∧ (tab32.map fun i => AV.v (.int .u8 i)).drop (n * 1) = .v (.int .u8 p) :: r' := by
 have hp := (low_bits h).2.1
 have hm : m ≠ 0#32 := fun e => by rw [e, bitsM_zero] at h; cases h
 obtain ⟨n, r', eN, hn, eI⟩ := tab_drop hp
 refine ⟨_, _, _, _, n, r', rfl, by rw [msk_zero]; exact beq_eq_false_iff_ne.2 hm, rfl, rfl, rfl, ?_, hn, by rw [Nat.mul_one]; exact eI⟩
 rw [msk_neg, msk_and, low_one h, msk_mul, msk_shr, eN]
theorem tz_c {m : BitVec 32} {p : Nat} {r : List Nat} (h : bitsM m = p :: r) : Call1 Tryd.prog 83 [encM m] (.v (.int .i64 p)) := by
 have hp := (low_bits h).2.1
 obtain ⟨M, N1, N2, N3, n, r', e0, z1, e1, e2, e3, e4, hn, eI⟩ := tz_num h
 simp only [encM, e0]
 (refine Call1.enter Tryd.func83 rfl (by kernel_rfl) (by kernel_rfl) rfl (by first | rfl | (simp only [go_sem, Bool.and_self, Bool.and_true, Bool.true_and])) (by first | rfl | (simp only [go_sem, Bool.and_self, Bool.and_true, Bool.true_and])) ?_; simp only [Tryd.ntmps83, Tryd.results83, List.length_cons, List.length_nil, Nat.reduceAdd, Nat.reduceSub, List.replicate_succ, List.replicate_zero, List.cons_append, List.nil_append])
 repeat (first | (with_reducible first | refine Stp.up ?_ | refine fun (K : AK) hK => ?_ | (refine hK _ ?_; clear hK K)) | simp only [go_sem, z1, e1, e2, e3, e4, ev_tab, eI] | with_reducible refine wA ?_ | clear hK K)
 have eW : IntKind.i64.wrap (p : Int) = p := wrap_id (by omega) (by omega)
 repeat (first | (with_reducible first | refine Stp.up ?_ | refine fun (K : AK) hK => ?_ | (refine hK _ ?_; clear hK K)) | simp only [go_sem, eW] | with_reducible refine wA ?_ | clear hK K)
def boxM (m : BitVec 32) : AObj := ⟨69, 1, false, [[encM m]]⟩
theorem encN_cons (p : Nat) (l : List Nat) : encN (p :: l) = [.v (.int .i64 p)] :: encN l := rfl
set_option maxRecDepth 100000 in
theorem all_seq (m : BitVec 32) : SeqA Tryd.prog 82 [.ptr 0 0 1 0 0] [some (boxM m)] (encN (bitsM m)) := by
 simp only [boxM, encM]
 (refine SeqA.enter Tryd.func82 rfl (by kernel_rfl) (by kernel_rfl) rfl (fun l => ?_); simp only [Tryd.ntmps82, Tryd.results82, List.length_cons, List.length_nil, Nat.reduceAdd, Nat.reduceSub, List.replicate_succ, List.replicate_zero, List.cons_append, List.nil_append])
 repeat (first | (with_reducible first | refine Stp.up ?_ | refine fun (K : AK) hK => ?_ | (refine hK _ ?_; clear hK K)) | simp only [go_sem] | clear hK K)
 refine awp_loopY (ι := BitVec 32) 3 (fun i => []) (fun i => [some (boxM i)]) (fun i => .run l (encN (bitsM i))) (fun i => (bitsM i).length) (fun _ => True) m trivial ?_ ?_
 ·simp only [boxM, encM]
  (refine wk_mk ?_ ?_ ?_ <;> simp only [frm, List.foldl_cons, List.foldl_nil, List.replicate_succ, List.replicate_zero, WkT, WkO, AV.v.injEq, Value.int.injEq, Value.bool.injEq, Value.string.injEq, AV.vec.injEq, AV.ptr.injEq, true_or, or_true, false_or, or_false, AObj.mk.injEq, forall_eq_apply_imp_iff, forall_eq, forall_eq', go_sem])
 ·rintro i hi K hK
  simp only [boxM, encM]
  repeat (first | (with_reducible first | refine Stp.up ?_ | refine fun (K : AK) hK => ?_ | (refine hK _ ?_; clear hK K)) | simp only [go_sem, msk_pos] | clear hK K)
  refine AIf.part (fun h => ?_) (fun h => ?_)
  ·cases hb : bitsM i with
   | nil => rw [bitsM_nil hb] at h; simp at h
   | cons p r =>
    have C := tz_c hb
    have eY := encN_cons p r
    have hR := low_rest hb
    simp only [encM] at C
    repeat (first | (with_reducible first | refine Stp.up ?_ | refine fun (K : AK) hK => ?_ | (refine hK _ ?_; clear hK K)) | simp only [go_sem] | clear hK K)
    refine ACallV.one C ?_
    repeat' (first | (with_reducible first | refine Stp.up ?_ | refine fun (K : AK) hK => ?_ | (refine hK _ ?_; clear hK K)) | simp only [go_sem, eY, msk_sub, msk_and] | clear hK K | (with_reducible refine ACallV.one (by assumption) ?_) | (with_reducible refine ACallS.one (by assumption) ?_) | (refine AIf.part (fun hb => ?_) (fun hb => ?_) <;> simp only [hb, go_sem, eY, msk_sub, msk_and]) | (refine AIf.part (fun hb => ?_) (fun hb => ?_)) | (with_reducible refine ABoth.mk ?_ ?_))
    ·refine LNext.mk (i &&& (i - 1#32)) trivial ?_ ?_
     ·rw [hR, hb]; simp
     ·rw [hR]; simp only [boxM, encM]; (refine wk_mk ?_ ?_ ?_ <;> simp only [frm, List.foldl_cons, List.foldl_nil, List.replicate_succ, List.replicate_zero, WkT, WkO, AV.v.injEq, Value.int.injEq, Value.bool.injEq, Value.string.injEq, AV.vec.injEq, AV.ptr.injEq, true_or, or_true, false_or, or_false, AObj.mk.injEq, forall_eq_apply_imp_iff, forall_eq, forall_eq', go_sem])
    ·exact .inr trivial
  ·have e1 : i = 0#32 := by simpa using h
   subst e1
   simp only [bitsM_zero, encN, List.map_nil]
   repeat (first | (with_reducible first | refine Stp.up ?_ | refine fun (K : AK) hK => ?_ | (refine hK _ ?_; clear hK K)) | simp only [go_sem] | clear hK K)
   exact .inl trivial
set_option maxRecDepth 100000 in
theorem setAll_e (m : BitVec 32) : CallE Tryd.prog 69 [encM m] [] (.fn 82 [] [.ptr 0 0 1 0 0]) [some (boxM m)] := by
 simp only [boxM, encM]
 (refine CallE.enter Tryd.func69 rfl (by kernel_rfl) (by kernel_rfl) rfl ?_; simp only [Tryd.ntmps69, Tryd.results69, List.length_cons, List.length_nil, Nat.reduceAdd, Nat.reduceSub, List.replicate_succ, List.replicate_zero, List.cons_append, List.nil_append])
 repeat (first | (with_reducible first | refine Stp.up ?_ | refine fun (K : AK) hK => ?_ | (refine hK _ ?_; clear hK K)) | simp only [go_sem] | with_reducible refine wA ?_ | clear hK K)
 (refine ⟨?_, ?_, ?_⟩ <;> simp only [WkT, WkO, AV.v.injEq, Value.int.injEq, Value.bool.injEq, Value.string.injEq, AV.vec.injEq, AV.ptr.injEq, true_or, or_true, false_or, or_false, AObj.mk.injEq, forall_eq_apply_imp_iff, forall_eq, forall_eq', go_sem])
end Go.Proofs.YtmdkgajjekbanaaDoor

namespace Go.Proofs.YtmdkgajjekbanaaDoor
open Go.ChangeShapes Go.WideShapes Go.ChangeAt Go.RowKit

theorem gTab : Tryd.prog.globalNamed "math/bits.deBruijn32tab" = some 0 := by kernel_rfl
theorem tTab : (Tryd.prog.globals[0]?).map (·.type) = some 120 := by kernel_rfl
theorem uTab : Tryd.prog.underlying 120 = some (.array 32 5) := by kernel_rfl
theorem uByte : Tryd.prog.underlying 5 = some (.int .u8) := by kernel_rfl
theorem dTab : (Rows.laid_math_bits_deBruijn32tab : DataW Unit) = .agg (tab32.map fun i => .lit (.int .u8 i)) := rfl
theorem glob_laid {w : World} (h : laidMetH Tryd.prog [("math/bits.deBruijn32tab", Rows.laid_math_bits_deBruijn32tab)] w) : GlobOk (fun _ => True) (fun _ _ => Go.undef) [] w := by
 rw [MakeChecks.laidMetH_plain _ _ _ (by kernel_rfl)] at h
 obtain ⟨ps, ⟨g0, t0, cs0, f0, p0, q0, hg0, ht0, hv0, hd0, hq, hps⟩, hnd, hc⟩ := h
 obtain rfl := Option.some.inj (gTab.symm.trans hg0)
 obtain rfl := Option.some.inj (tTab.symm.trans ht0)
 rw [dTab] at hd0
 obtain ⟨xs, m, rfl, hx, hlen, hn, hel⟩ := DataW.trod_array uTab hd0
 have c8 : Tryd.prog.cellsOf 5 = 1 := by kernel_rfl
 have c32 : Tryd.prog.cellsOf 120 = 32 := by kernel_rfl
 have hxs : xs.map (·.1) = tab32.map fun i => (DataW.lit (.int .u8 i) : DataW Unit) := by
  simp only [Prod.mk.injEq, DataW.agg.injEq] at hx; exact hx.1.symm
 rw [c32] at hlen
 rw [c8] at hel
 have hcs : cs0.toList = tab32.map (fun i => Value.int .u8 i) := by
  refine List.ext_getElem (by rw [hlen]; rfl) fun i h1 h2 => ?_
  have hi : i < 32 := by omega
  have e1 := hel i hi
  rw [Nat.mul_one, List.drop_eq_getElem_cons h1, List.take_succ_cons, List.take_zero] at e1
  have hix : i < xs.length := by omega
  rw [List.getElem?_eq_getElem hix] at e1
  obtain ⟨n, k1, k2, _⟩ := DataW.trod_int uByte e1
  have e2 : (xs.map (·.1))[i]? = (tab32.map fun i => (DataW.lit (.int .u8 i) : DataW Unit))[i]? := by rw [hxs]
  have hit : i < tab32.length := hi
  rw [List.getElem?_map, List.getElem?_map, List.getElem?_eq_getElem hix, List.getElem?_eq_getElem hit, k2] at e2
  simp only [Option.map_some, Option.some.injEq, DataW.lit.injEq, Lit.int.injEq, true_and] at e2
  rw [List.getElem_map, ← e2]
  exact (List.cons.inj k1).1
 intro g T cs hg
 have hgg : g = 0 ∧ cs = (tab32.map (fun i => Value.int .u8 i)).toArray := by
  unfold globs at hg
  split at hg
  ·rename_i e
   obtain ⟨-, rfl⟩ := Prod.mk.inj (Option.some.inj hg)
   exact ⟨e, rfl⟩
  ·cases hg
 obtain ⟨rfl, rfl⟩ := hgg
 refine ⟨?_, owned_nil' _ _, trivial⟩
 obtain ⟨⟨c, t, hb⟩, _⟩ := hc 0 0 (by
  rw [hps, List.append_assoc]
  refine List.mem_append_left _ ?_
  rw [MemPlace.row, List.mem_map]
  refine ⟨0, ?_, rfl⟩
  rw [List.mem_range, ← Array.length_toList, hlen]; decide)
 simp only [World.var?, hg0, Option.bind_some, hb, Option.some.injEq] at hv0
 refine ⟨t, ?_⟩
 rw [hb, hv0, ← hcs, Array.toArray_toList]
section
variable {H : Type} {enc : TypeId × Value → H} {w : World}
end
end Go.Proofs.YtmdkgajjekbanaaDoor

namespace Go.Proofs.YtmdkgajjekbanaaDoor
open Go.RowKit

theorem encN_at {l : List Nat} {k : Nat} {x : List AV} (h : (encN l)[k]? = some x) : ∃ hk : k < l.length, x = [.v (.int .i64 (l[k] : Nat))] := by
 obtain ⟨h1, h2⟩ := List.getElem?_eq_some_iff.1 h
 simp only [encN, List.length_map] at h1
 exact ⟨h1, by rw [← h2]; simp [encN]⟩
theorem awp_rangeSet {n0 : Nat} {Q : AExit → AS → Prop} {t : List AV} {o : List (Option AObj)} {y : YSt} {g : Operand} {ps : Array Tmp} {assign body : Code} (m : BitVec 32) (id : Nat) (ho : o[id]? = some (some (boxM m))) (mm : Nat) (O : Nat → List (Option AObj)) (ok : Nat → Prop) (h0 : ok 0)
  (hg : (AS.mk t o y).ev g = .fn 82 [] [.ptr id 0 1 0 0]) (hdead : (O 0)[id]? = some none) (hwk : Wk n0 ⟨t, o, y⟩ ⟨keepT mm t, O 0, y⟩) (hA : okCode assign = true) (hB : okCode body = true) (hps : ps.size = 1)
  (hround : ∀ k (hk : k < (bitsM m).length), ok k → AWp Tryd.prog (O 0).length assign ⟨setAll ps.toList [.v (.int .i64 ((bitsM m)[k] : Nat))] (keepT mm t), O k, y⟩ (ARound Tryd.prog (O 0).length body (AEndR (O 0).length (keepT mm t) (ok (k + 1)) (O (k + 1)) y Q)))
  (hfin : ok (bitsM m).length → Q .normal ⟨keepT mm t, O (bitsM m).length, y⟩) : AWp Tryd.prog n0 (.rangeFunc g ps assign body) ⟨t, o, y⟩ Q := by
 have hl : (encN (bitsM m)).length = (bitsM m).length := by simp [encN]
 refine awp_rangeI (all_seq m) [id] (by simp) ?_ ?_ O (fun _ => y) ok h0 (keepT mm t) ?_ (by rfl) ?_ hwk hA hB ?_ ?_ (by rw [hl]; exact hfin)
 ·simp only [List.map_cons, List.map_nil, ho, Option.map_some]; rfl
 ·intro k ob hk
  match k, hk with
  | 0, hk => cases hk; rfl
  | k + 1, hk => simp at hk
 ·rw [hg]; rfl
 ·intro i hi ob
  obtain rfl : i = id := by simpa using hi
  rw [hdead]; intro h; cases h
 ·intro x hx
  obtain ⟨p, _, rfl⟩ := List.mem_map.1 hx
  exact hps.symm
 ·intro k x hk hx
  obtain ⟨hlt, rfl⟩ := encN_at hx
  exact hround k hlt hk

def ofM (p : Int) : BitVec 32 := if 0 ≤ p ∧ p ≤ 24 then 1#32 <<< p.toNat else 0#32
theorem ofM_get {p : Int} {i : Nat} : (ofM p).getLsbD i = decide (0 ≤ p ∧ p ≤ 24 ∧ i = p) := by
 rw [ofM]
 split
 ·rename_i h
  rw [BitVec.getLsbD_shiftLeft, BitVec.getLsbD_one, Bool.eq_iff_iff]
  simp; omega
 ·rename_i h
  rw [BitVec.getLsbD_zero, eq_comm, decide_eq_false_iff_not]; omega
set_option maxRecDepth 100000 in
theorem of_c (p : Int) : Call1 Tryd.prog 53 [.v (.int .i64 p)] (encM (ofM p)) := by
 have hS : 0 ≤ p ∧ p ≤ 24 → IntKind.u32.wrap (1 * 2 ^ min p.toNat 32) = ((ofM p).toNat : Nat) := fun h => by
  have e : min p.toNat 32 = p.toNat := by omega
  rw [ofM, if_pos h, e, msk_shl]
 have hZ : ¬ (0 ≤ p ∧ p ≤ 24) → ofM p = 0#32 := fun h => by rw [ofM, if_neg h]
 simp only [encM]
 rcases Int.lt_or_le p 0 with h1 | h1
 ·have b1 : decide (p < 0) = true := decide_eq_true h1
  rw [hZ (by omega)]
  (refine Call1.enter Tryd.func53 rfl (by kernel_rfl) (by kernel_rfl) rfl (by first | rfl | (simp only [go_sem, Bool.and_self, Bool.and_true, Bool.true_and])) (by first | rfl | (simp only [go_sem, Bool.and_self, Bool.and_true, Bool.true_and])) ?_; simp only [Tryd.ntmps53, Tryd.results53, List.length_cons, List.length_nil, Nat.reduceAdd, Nat.reduceSub, List.replicate_succ, List.replicate_zero, List.cons_append, List.nil_append])
  repeat (first | (with_reducible first | refine Stp.up ?_ | refine fun (K : AK) hK => ?_ | (refine hK _ ?_; clear hK K)) | simp only [go_sem, b1, Go.undef] | with_reducible refine wA ?_ | clear hK K)
  rfl
 ·have b1 : decide (p < 0) = false := decide_eq_false (by omega)
  rcases Int.lt_or_le 24 p with h2 | h2
  ·have b2 : decide (24 < p) = true := decide_eq_true h2
   rw [hZ (by omega)]
   (refine Call1.enter Tryd.func53 rfl (by kernel_rfl) (by kernel_rfl) rfl (by first | rfl | (simp only [go_sem, Bool.and_self, Bool.and_true, Bool.true_and])) (by first | rfl | (simp only [go_sem, Bool.and_self, Bool.and_true, Bool.true_and])) ?_; simp only [Tryd.ntmps53, Tryd.results53, List.length_cons, List.length_nil, Nat.reduceAdd, Nat.reduceSub, List.replicate_succ, List.replicate_zero, List.cons_append, List.nil_append])
   repeat (first | (with_reducible first | refine Stp.up ?_ | refine fun (K : AK) hK => ?_ | (refine hK _ ?_; clear hK K)) | simp only [go_sem, b1, b2, Go.undef] | with_reducible refine wA ?_ | clear hK K)
   rfl
  ·have b2 : decide (24 < p) = false := decide_eq_false (by omega)
   have e := hS ⟨h1, h2⟩
   have e0 : (0 ≤ p) = True := eq_true h1
   (refine Call1.enter Tryd.func53 rfl (by kernel_rfl) (by kernel_rfl) rfl (by first | rfl | (simp only [go_sem, Bool.and_self, Bool.and_true, Bool.true_and])) (by first | rfl | (simp only [go_sem, Bool.and_self, Bool.and_true, Bool.true_and])) ?_; simp only [Tryd.ntmps53, Tryd.results53, List.length_cons, List.length_nil, Nat.reduceAdd, Nat.reduceSub, List.replicate_succ, List.replicate_zero, List.cons_append, List.nil_append])
   repeat (first | (with_reducible first | refine Stp.up ?_ | refine fun (K : AK) hK => ?_ | (refine hK _ ?_; clear hK K)) | simp only [go_sem, b1, b2, e, e0, Go.undef] | with_reducible refine wA ?_ | clear hK K)
set_option maxRecDepth 100000 in
theorem list_c (m : BitVec 32) : Call1 Tryd.prog 50 [encM m] (.slc 1 (encN (bitsM m)) (bitsM m).length) := by
 have A := setAll_e m
 have hb := bitsM_len m
 simp only [boxM, encM] at *
 (refine Call1.enter Tryd.func50 rfl (by kernel_rfl) (by kernel_rfl) rfl (by first | rfl | (simp only [go_sem, Bool.and_self, Bool.and_true, Bool.true_and])) (by first | rfl | (simp only [go_sem, Bool.and_self, Bool.and_true, Bool.true_and])) ?_; simp only [Tryd.ntmps50, Tryd.results50, List.length_cons, List.length_nil, Nat.reduceAdd, Nat.reduceSub, List.replicate_succ, List.replicate_zero, List.cons_append, List.nil_append])
 repeat (first | (with_reducible first | refine Stp.up ?_ | refine fun (K : AK) hK => ?_ | (refine hK _ ?_; clear hK K)) | simp only [go_sem] | with_reducible refine wA ?_ | clear hK K)
 refine ACallV.fr [] A (by simp) ?_ ?_ ?_ ?_ ?_
 ·rfl
 ·rfl
 ·rfl
 ·intro k ob hk; simp at hk
 repeat (first | (with_reducible first | refine Stp.up ?_ | refine fun (K : AK) hK => ?_ | (refine hK _ ?_; clear hK K)) | simp only [go_sem] | with_reducible refine wA ?_ | clear hK K)
 refine asem_turn (turn_cell (k := 0) (i := 0) (j := 0) 3 1 (by decide) rfl (by decide) rfl rfl) (by kernel_rfl) ?_
 simp only [List.length_cons, List.length_nil, Nat.reduceAdd, List.cons_append, List.nil_append, List.set_cons_zero]
 refine awp_rangeSet m 1 rfl 3 (fun k => [some ⟨37, 1, false, [[.vec 2 k]]⟩, none, some ⟨3, 1, true, encN ((bitsM m).take k)⟩]) (fun _ => True) trivial ?_ rfl ?_ (by kernel_rfl) (by kernel_rfl) rfl ?_ ?_
 ·rfl
 ·(refine wk_mk ?_ ?_ ?_ <;> simp only [frm, List.foldl_cons, List.foldl_nil, List.replicate_succ, List.replicate_zero, WkT, WkO, AV.v.injEq, Value.int.injEq, Value.bool.injEq, Value.string.injEq, AV.vec.injEq, AV.ptr.injEq, true_or, or_true, false_or, or_false, AObj.mk.injEq, forall_eq_apply_imp_iff, forall_eq, forall_eq', go_sem])
  rfl
 ·intro k hk _
  have eS : encN ((bitsM m).take (k + 1)) = encN ((bitsM m).take k) ++ [[.v (.int .i64 ((bitsM m)[k] : Nat))]] := by rw [List.take_succ_eq_append_getElem hk, encN, List.map_append]; rfl
  have eL : (encN ((bitsM m).take k)).length = k := by simp [encN]; omega
  repeat (first | (with_reducible first | refine Stp.up ?_ | refine fun (K : AK) hK => ?_ | (refine hK _ ?_; clear hK K)) | simp only [go_sem] | with_reducible refine wA ?_ | clear hK K)
  rw [eS]
  (refine wk_mk ?_ ?_ ?_ <;> simp only [frm, List.foldl_cons, List.foldl_nil, List.replicate_succ, List.replicate_zero, WkT, WkO, AV.v.injEq, Value.int.injEq, Value.bool.injEq, Value.string.injEq, AV.vec.injEq, AV.ptr.injEq, true_or, or_true, false_or, or_false, AObj.mk.injEq, forall_eq_apply_imp_iff, forall_eq, forall_eq', go_sem])
 ·intro _
  have e1 : (bitsM m).take (bitsM m).length = bitsM m := List.take_length
  have eL : (encN (bitsM m)).length = (bitsM m).length := by simp [encN]
  repeat (first | (with_reducible first | refine Stp.up ?_ | refine fun (K : AK) hK => ?_ | (refine hK _ ?_; clear hK K)) | simp only [go_sem, e1] | with_reducible refine wA ?_ | clear hK K)
  rw [← eL]
  (refine AFz.of 40 rfl ?_; simp only [go_sem])
  trace_state
end Go.Proofs.YtmdkgajjekbanaaDoor
