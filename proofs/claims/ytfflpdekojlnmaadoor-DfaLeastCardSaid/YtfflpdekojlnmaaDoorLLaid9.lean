/- Masks of 32 bits: sets of positions; math/bits.TrailingZeros32 and nfa's iterator over a set. -/
import Derived.Test.YtfflpdekojlnmaaDoorLExprC
import Derived.Test.YtfflpdekojlnmaaDoorLLens
import Derived.Test.YtfflpdekojlnmaaDoorRows
import Derived.Test.YtfflpdekojlnmaaDoorLOpenX
import Derived.LaidMore
import Derived.OpenShut
set_option linter.unusedSimpArgs false
set_option linter.unusedVariables false
namespace Go.Proofs.YtfflpdekojlnmaaDoor
open Go.RowKit

theorem wrap_msk (n : Int) : IntKind.u32.wrap n = n % 4294967296 := by simp [IntKind.wrap, IntKind.signed, IntKind.bits]
theorem u32_of (m : BitVec 32) : IntKind.u32.wrap (m.toNat : Int) = m.toNat := by
 rw [wrap_msk]; have := m.isLt; omega
theorem ofInt_msk (m : BitVec 32) : BitVec.ofInt 32 (m.toNat : Int) = m := by
 simp
theorem msk_sub (m : BitVec 32) : IntKind.u32.wrap ((m.toNat : Int) - 1) = (m - 1#32).toNat := by
 rw [wrap_msk, BitVec.toNat_sub]; have := m.isLt; simp; omega
theorem msk_neg (m : BitVec 32) : IntKind.u32.wrap (0 - (m.toNat : Int)) = (-m).toNat := by
 rw [wrap_msk, BitVec.toNat_neg]; have := m.isLt; omega
theorem msk_mul (m : BitVec 32) : IntKind.u32.wrap ((m.toNat : Int) * 125613361) = (m * 125613361#32).toNat := by
 rw [wrap_msk, BitVec.toNat_mul]; simp
theorem msk_shr (m : BitVec 32) : (m.toNat : Int).fdiv (2 ^ min 27 32) = (m >>> 27).toNat := by
 show (m.toNat : Int).fdiv (2 ^ 27) = _
 rw [BitVec.toNat_ushiftRight, Nat.shiftRight_eq_div_pow]; simp [Int.fdiv_eq_ediv_of_nonneg]
theorem msk_shl (p : Nat) : IntKind.u32.wrap (1 * 2 ^ p) = (1#32 <<< p).toNat := by
 rw [wrap_msk, BitVec.toNat_shiftLeft, Nat.shiftLeft_eq]; simp
theorem msk_pos (m : BitVec 32) : decide ((0 : Int) < (m.toNat : Int)) = (m != 0#32) := by
 by_cases h : m = 0#32
 ·subst h; simp
 ·have e : m.toNat ≠ 0 := fun e => h (BitVec.eq_of_toNat_eq (by simpa using e))
  rw [bne_iff_ne.2 h]; exact decide_eq_true (by omega)
theorem msk_zero (m : BitVec 32) : ((m.toNat : Int) == 0) = (m == 0#32) := by
 by_cases h : m = 0#32
 ·subst h; simp
 ·have e : m.toNat ≠ 0 := fun e => h (BitVec.eq_of_toNat_eq (by simpa using e))
  rw [beq_eq_false_iff_ne.2 h]; exact beq_eq_false_iff_ne.2 (by omega)
theorem msk_and (m n : BitVec 32) : iAnd .u32 m.toNat n.toNat = (m &&& n).toNat := by
 rw [iAnd]; show IntKind.u32.wrap ((BitVec.ofInt 32 _ &&& BitVec.ofInt 32 _).toNat : Int) = _
 rw [ofInt_msk, ofInt_msk, u32_of]
theorem msk_or (m n : BitVec 32) : iOr .u32 m.toNat n.toNat = (m ||| n).toNat := by
 rw [iOr]; show IntKind.u32.wrap ((BitVec.ofInt 32 _ ||| BitVec.ofInt 32 _).toNat : Int) = _
 rw [ofInt_msk, ofInt_msk, u32_of]
theorem msk_not (m n : BitVec 32) : iAndNot .u32 m.toNat n.toNat = (m &&& ~~~ n).toNat := by
 rw [iAndNot]; show IntKind.u32.wrap ((BitVec.ofInt 32 _ &&& ~~~ BitVec.ofInt 32 _).toNat : Int) = _
 rw [ofInt_msk, ofInt_msk, u32_of]
def bitsM (m : BitVec 32) : List Nat := (List.range 32).filter m.getLsbD
theorem bitsM_mem {m : BitVec 32} {p : Nat} : p ∈ bitsM m ↔ m.getLsbD p = true := by
 simp only [bitsM, List.mem_filter, List.mem_range]
 exact ⟨fun h => h.2, fun h => ⟨BitVec.lt_of_getLsbD h, h⟩⟩
theorem bitsM_rise (m : BitVec 32) : (bitsM m).Pairwise (· < ·) := List.pairwise_lt_range.filter _
theorem bitsM_len (m : BitVec 32) : (bitsM m).length ≤ 32 := by
 have := List.length_filter_le m.getLsbD (List.range 32)
 simpa [bitsM] using this
theorem bitsM_zero : bitsM 0#32 = [] := by simp [bitsM]
theorem bitsM_nil {m : BitVec 32} (h : bitsM m = []) : m = 0#32 := by
 refine BitVec.eq_of_getLsbD_eq fun i hi => ?_
 cases hb : m.getLsbD i with
 | false => simp
 | true => have := bitsM_mem.2 hb; rw [h] at this; cases this
theorem low_bits {m : BitVec 32} {p : Nat} {r : List Nat} (h : bitsM m = p :: r) : m.getLsbD p = true ∧ p < 32 ∧ (∀ j, j < p → m.getLsbD j = false) ∧ ∀ j, j ∈ r ↔ (m.getLsbD j = true ∧ p < j) := by
 have hm : m.getLsbD p = true := bitsM_mem.1 (by rw [h]; simp)
 have hr := bitsM_rise m
 rw [h, List.pairwise_cons] at hr
 refine ⟨hm, BitVec.lt_of_getLsbD hm, fun j hj => ?_, fun j => ⟨fun hj => ⟨bitsM_mem.1 (by rw [h]; exact List.mem_cons_of_mem _ hj), hr.1 j hj⟩, fun hj => ?_⟩⟩
 ·cases hb : m.getLsbD j with
  | false => rfl
  | true =>
   have := bitsM_mem.2 hb
   rw [h, List.mem_cons] at this
   rcases this with rfl | hh
   ·omega
   ·have := hr.1 j hh; omega
 ·have := bitsM_mem.2 hj.1
  rw [h, List.mem_cons] at this
  rcases this with rfl | hh
  ·omega
  ·exact hh
theorem low_one {m : BitVec 32} {p : Nat} {r : List Nat} (h : bitsM m = p :: r) : m &&& -m = 1#32 <<< p := by
 obtain ⟨h1, h2, h3, h4⟩ := low_bits h
 refine BitVec.eq_of_getLsbD_eq fun i hi => ?_
 rw [BitVec.getLsbD_and, BitVec.getLsbD_neg, BitVec.getLsbD_shiftLeft, BitVec.getLsbD_one]
 rcases Nat.lt_trichotomy i p with q | q | q
 ·simp [h3 i q, q]
 ·subst q
  have : ¬ ∃ j, j < i ∧ m.getLsbD j = true := fun ⟨j, a, b⟩ => by rw [h3 j a] at b; cases b
  rw [h1, decide_eq_false this]; simp [hi]
 ·have : ∃ j, j < i ∧ m.getLsbD j = true := ⟨p, q, h1⟩
  have e : i - p ≠ 0 := by omega
  simp [this, hi, e]
theorem low_rest {m : BitVec 32} {p : Nat} {r : List Nat} (h : bitsM m = p :: r) : bitsM (m &&& (m - 1#32)) = r := by
 obtain ⟨h1, h2, h3, h4⟩ := low_bits h
 have hr := bitsM_rise m
 rw [h, List.pairwise_cons] at hr
 have key : ∀ j, (m &&& (m - 1#32)).getLsbD j = true ↔ j ∈ r := fun j => by
  rw [h4, ← BitVec.not_neg, BitVec.getLsbD_and, BitVec.getLsbD_not, BitVec.getLsbD_neg]
  rcases Nat.lt_or_ge p j with q | q
  ·have : ∃ k, k < j ∧ m.getLsbD k = true := ⟨p, q, h1⟩
   by_cases hj : m.getLsbD j = true
   ·have := BitVec.lt_of_getLsbD hj
    simp_all
   ·simp_all
  ·by_cases hj : m.getLsbD j = true
   ·have e : j = p := by
     rcases Nat.lt_or_ge j p with a | a
     ·rw [h3 j a] at hj; cases hj
     ·omega
    subst e
    have : ¬ ∃ k, k < j ∧ m.getLsbD k = true := fun ⟨k, a, b⟩ => by rw [h3 k a] at b; cases b
    rw [h1, decide_eq_false this]; simp [h2]
   ·simp_all
 exact rise_ext (bitsM_rise _) hr.2 (fun j => bitsM_mem.trans (key j))

def encM (m : BitVec 32) : AV := .v (.int .u32 m.toNat)
def tab32 : List Int := [0, 1, 28, 2, 29, 14, 24, 3, 30, 22, 20, 15, 25, 17, 4, 8, 31, 27, 13, 23, 21, 19, 16, 7, 26, 12, 18, 6, 11, 5, 10, 9]
theorem tab_at : ∀ p : Nat, p < 32 → tab32[((1#32 <<< p * 125613361#32) >>> 27).toNat]? = some (p : Int) := by decide
theorem ev_tab (s : AS) : s.ev (.global 0) = .vp (tab32.map fun i => .v (.int .u8 i)) := rfl
theorem drop_at {l : List Int} {f : Int → AV} {n : Nat} {x : Int} (e : l[n]? = some x) : ∃ r, (l.map f).drop n = f x :: r := by
 obtain ⟨h1, h2⟩ := List.getElem?_eq_some_iff.1 e
 exact ⟨_, by rw [List.drop_eq_getElem_cons (by simpa using h1), List.getElem_map, h2]⟩
theorem tab_drop {p : Nat} (hp : p < 32) : ∃ n r, ((1#32 <<< p * 125613361#32) >>> 27).toNat = n ∧ n < 32 ∧ (tab32.map fun i => AV.v (.int .u8 i)).drop n = .v (.int .u8 p) :: r := by
 have e := tab_at p hp
 generalize ((1#32 <<< p * 125613361#32) >>> 27).toNat = n at *
 obtain ⟨r, h⟩ := drop_at (f := fun i => AV.v (.int .u8 i)) e
 exact ⟨n, r, rfl, (List.getElem?_eq_some_iff.1 e).1, h⟩
theorem tz_num {m : BitVec 32} {p : Nat} {r : List Nat} (h : bitsM m = p :: r) : ∃ (M N1 N2 N3 : Int) (n : Nat) (r' : List AV), (m.toNat : Int) = M ∧ (M == 0) = false ∧ IntKind.u32.wrap (0 - M) = N1 ∧ iAnd .u32 M N1 = N2 ∧ IntKind.u32.wrap (N2 * 125613361) = N3 ∧
  N3.fdiv (2 ^ min 27 32) = n ∧ n < 32 ∧ (tab32.map fun i => AV.v (.int .u8 i)).drop (n * 1) = .v (.int .u8 p) :: r' := by
 have hp := (low_bits h).2.1
 have hm : m ≠ 0#32 := fun e => by rw [e, bitsM_zero] at h; cases h
 obtain ⟨n, r', eN, hn, eI⟩ := tab_drop hp
 refine ⟨_, _, _, _, n, r', rfl, by rw [msk_zero]; exact beq_eq_false_iff_ne.2 hm, rfl, rfl, rfl, ?_, hn, by rw [Nat.mul_one]; exact eI⟩
 rw [msk_neg, msk_and, low_one h, msk_mul, msk_shr, eN]
theorem tz_c {m : BitVec 32} {p : Nat} {r : List Nat} (h : bitsM m = p :: r) : Call1 Tryd.prog 80 [encM m] (.v (.int .i64 p)) := by
 have hp := (low_bits h).2.1
 obtain ⟨M, N1, N2, N3, n, r', e0, z1, e1, e2, e3, e4, hn, eI⟩ := tz_num h
 simp only [encM, e0]
 (refine Call1.enter Tryd.func80 rfl (by kernel_rfl) (by kernel_rfl) rfl (by first | rfl | (simp only [go_sem, Bool.and_self, Bool.and_true, Bool.true_and])) (by first | rfl | (simp only [go_sem, Bool.and_self, Bool.and_true, Bool.true_and])) ?_; simp only [Tryd.ntmps80, Tryd.results80, List.length_cons, List.length_nil, Nat.reduceAdd, Nat.reduceSub, List.replicate_succ, List.replicate_zero, List.cons_append, List.nil_append])
 repeat (first | (with_reducible first | refine Stp.up ?_ | refine fun (K : AK) hK => ?_ | (refine hK _ ?_; clear hK K)) | simp only [go_sem, z1, e1, e2, e3, e4, ev_tab, eI] | with_reducible refine wA ?_ | clear hK K)
 have eW : IntKind.i64.wrap (p : Int) = p := wrap_id (by omega) (by omega)
 repeat (first | (with_reducible first | refine Stp.up ?_ | refine fun (K : AK) hK => ?_ | (refine hK _ ?_; clear hK K)) | simp only [go_sem, eW] | with_reducible refine wA ?_ | clear hK K)
def boxM (m : BitVec 32) : AObj := ⟨64, 1, false, [[encM m]]⟩
theorem encN_cons (p : Nat) (l : List Nat) : encN (p :: l) = [.v (.int .i64 p)] :: encN l := rfl
set_option maxRecDepth 100000 in
theorem all_seq (m : BitVec 32) : SeqA Tryd.prog 79 [.ptr 0 0 1 0 0] [some (boxM m)] (encN (bitsM m)) := by
 simp only [boxM, encM]
 (refine SeqA.enter Tryd.func79 rfl (by kernel_rfl) (by kernel_rfl) rfl (fun l => ?_); simp only [Tryd.ntmps79, Tryd.results79, List.length_cons, List.length_nil, Nat.reduceAdd, Nat.reduceSub, List.replicate_succ, List.replicate_zero, List.cons_append, List.nil_append])
 repeat (first | (with_reducible first | refine Stp.up ?_ | refine fun (K : AK) hK => ?_ | (refine hK _ ?_; clear hK K)) | simp only [go_sem] | clear hK K)
 refine awp_loopY (ι := BitVec 32) 3 (fun i => []) (fun i => [some (boxM i)]) (fun i => .run l (encN (bitsM i))) (fun i => (bitsM i).length) (fun _ => True) m trivial ?_ ?_
 ·simp only [boxM, encM]
  (refine wk_mk ?_ ?_ ?_ <;> simp only [frm, List.foldl_cons, List.foldl_nil, List.replicate_succ, List.replicate_zero, WkT, WkO, AV.v.injEq, Value.int.injEq, Value.bool.injEq, Value.string.injEq, AV.vec.injEq, AV.ptr.injEq, true_or, or_true, false_or, or_false, AObj.mk.injEq, forall_eq_apply_imp_iff, forall_eq, forall_eq', go_sem])
 ·rintro i hi K hK
  simp only [boxM, encM]
  repeat (first | (with_reducible first | refine Stp.up ?_ | refine fun (K : AK) hK => ?_ | (refine hK _ ?_; clear hK K)) | simp only [go_sem, msk_pos] | clear hK K)
  refine AIf.part (fun h => ?_) (fun h => ?_)
  ·cases hb : bitsM i with
   | nil => rw [bitsM_nil hb] at h; simp at h
   | cons p r =>
    have C := tz_c hb
    have eY := encN_cons p r
    have hR := low_rest hb
    simp only [encM] at C
    repeat (first | (with_reducible first | refine Stp.up ?_ | refine fun (K : AK) hK => ?_ | (refine hK _ ?_; clear hK K)) | simp only [go_sem] | clear hK K)
    refine ACallV.one C ?_
    repeat' (first | (with_reducible first | refine Stp.up ?_ | refine fun (K : AK) hK => ?_ | (refine hK _ ?_; clear hK K)) | simp only [go_sem, eY, msk_sub, msk_and] | clear hK K | (with_reducible refine ACallV.one (by assumption) ?_) | (with_reducible refine ACallS.one (by assumption) ?_) | (refine AIf.part (fun hb => ?_) (fun hb => ?_) <;> simp only [hb, go_sem, eY, msk_sub, msk_and]) | (refine AIf.part (fun hb => ?_) (fun hb => ?_)) | (with_reducible refine ABoth.mk ?_ ?_))
    ·refine LNext.mk (i &&& (i - 1#32)) trivial ?_ ?_
     ·rw [hR, hb]; simp
     ·rw [hR]; simp only [boxM, encM]; (refine wk_mk ?_ ?_ ?_ <;> simp only [frm, List.foldl_cons, List.foldl_nil, List.replicate_succ, List.replicate_zero, WkT, WkO, AV.v.injEq, Value.int.injEq, Value.bool.injEq, Value.string.injEq, AV.vec.injEq, AV.ptr.injEq, true_or, or_true, false_or, or_false, AObj.mk.injEq, forall_eq_apply_imp_iff, forall_eq, forall_eq', go_sem])
    ·exact .inr trivial
  ·have e1 : i = 0#32 := by simpa using h
   subst e1
   simp only [bitsM_zero, encN, List.map_nil]
   repeat (first | (with_reducible first | refine Stp.up ?_ | refine fun (K : AK) hK => ?_ | (refine hK _ ?_; clear hK K)) | simp only [go_sem] | clear hK K)
   exact .inl trivial
set_option maxRecDepth 100000 in
theorem setAll_e (m : BitVec 32) : CallE Tryd.prog 59 [encM m] [] (.fn 79 [] [.ptr 0 0 1 0 0]) [some (boxM m)] := by
 simp only [boxM, encM]
 (refine CallE.enter Tryd.func59 rfl (by kernel_rfl) (by kernel_rfl) rfl ?_; simp only [Tryd.ntmps59, Tryd.results59, List.length_cons, List.length_nil, Nat.reduceAdd, Nat.reduceSub, List.replicate_succ, List.replicate_zero, List.cons_append, List.nil_append])
 repeat (first | (with_reducible first | refine Stp.up ?_ | refine fun (K : AK) hK => ?_ | (refine hK _ ?_; clear hK K)) | simp only [go_sem] | with_reducible refine wA ?_ | clear hK K)
 (refine ⟨?_, ?_, ?_⟩ <;> simp only [WkT, WkO, AV.v.injEq, Value.int.injEq, Value.bool.injEq, Value.string.injEq, AV.vec.injEq, AV.ptr.injEq, true_or, or_true, false_or, or_false, AObj.mk.injEq, forall_eq_apply_imp_iff, forall_eq, forall_eq', go_sem])
end Go.Proofs.YtfflpdekojlnmaaDoor

namespace Go.Proofs.YtfflpdekojlnmaaDoor
open Go.ChangeShapes Go.WideShapes Go.ChangeAt Go.RowKit

theorem lv_mem {P : Program} {w : World} {n : String} {d : DataW Unit} : ∀ (laid : List (String × DataW Unit)) (ps : List MemPlace), DataW.LaidVars P w laid ps → (n, d) ∈ laid →
  ∃ g t cs fuel p, P.globalNamed n = some g ∧ (P.globals[g]?).map (·.type) = some t ∧ w.var? P n = some cs ∧ DataW.trod (fun _ => ()) P w 0 (fun _ => true) false fuel t cs.toList = some (d, p) ∧ ∀ m ∈ MemPlace.row ⟨g, 0, none⟩ cs.size, m ∈ ps
 | [], ps, h, hm => by cases hm
 | (n', d') :: r, ps, h, hm => by
  obtain ⟨g, t, cs, fuel, p, q, h1, h2, h3, h4, h5, rfl⟩ := h
  rcases List.mem_cons.1 hm with e | hm
  ·cases e
   exact ⟨g, t, cs, fuel, p, h1, h2, h3, h4, fun m hm => List.mem_append_left _ (List.mem_append_left _ hm)⟩
  ·obtain ⟨g', t', cs', fuel', p', k1, k2, k3, k4, k5⟩ := lv_mem r q h5 hm
   exact ⟨g', t', cs', fuel', p', k1, k2, k3, k4, fun m hm => List.mem_append_right _ (k5 m hm)⟩
theorem tab_laid {P : Program} {w : World} {n : String} {laid : List (String × DataW Unit)} {d : DataW Unit} {g : Nat} {T E : TypeId} {k : IntKind} {N : Nat} (vals : List Int) (hm : (n, d) ∈ laid) (hd : d = .agg (vals.map fun i => .lit (.int k i))) (hG : P.globalNamed n = some g) (hT : (P.globals[g]?).map (·.type) = some T) (uT : P.underlying T = some (.array N E)) (uE : P.underlying E = some (.int k))
  (cE : P.cellsOf E = 1) (cT : P.cellsOf T = N) (hN : 0 < N) (hv : vals.length = N) (h : laidMet P laid w) : ∃ t, w.heap[g]? = some (.cells (vals.map (fun i => Value.int k i)).toArray t (0, 0)) := by
 obtain ⟨ps, hl, hnd, hc⟩ := h
 obtain ⟨g0, t0, cs0, f0, p0, hg0, ht0, hv0, hd0, hps⟩ := lv_mem _ _ hl hm
 obtain rfl := Option.some.inj (hG.symm.trans hg0)
 obtain rfl := Option.some.inj (hT.symm.trans ht0)
 rw [hd] at hd0
 obtain ⟨xs, m, rfl, hx, hlen, hn, hel⟩ := DataW.trod_array uT hd0
 have hxs : xs.map (·.1) = vals.map fun i => (DataW.lit (.int k i) : DataW Unit) := by
  simp only [Prod.mk.injEq, DataW.agg.injEq] at hx; exact hx.1.symm
 rw [cT] at hlen
 rw [cE] at hel
 have hcs : cs0.toList = vals.map (fun i => Value.int k i) := by
  refine List.ext_getElem (by rw [hlen, List.length_map, hv]) fun i h1 h2 => ?_
  have hi : i < N := by omega
  have e1 := hel i hi
  rw [Nat.mul_one, List.drop_eq_getElem_cons h1, List.take_succ_cons, List.take_zero] at e1
  have hix : i < xs.length := by omega
  rw [List.getElem?_eq_getElem hix] at e1
  obtain ⟨n, k1, k2, _⟩ := DataW.trod_int uE e1
  have e2 : (xs.map (·.1))[i]? = (vals.map fun i => (DataW.lit (.int k i) : DataW Unit))[i]? := by rw [hxs]
  have hit : i < vals.length := by omega
  rw [List.getElem?_map, List.getElem?_map, List.getElem?_eq_getElem hix, List.getElem?_eq_getElem hit, k2] at e2
  simp only [Option.map_some, Option.some.injEq, DataW.lit.injEq, Lit.int.injEq, true_and] at e2
  rw [List.getElem_map, ← e2]
  exact (List.cons.inj k1).1
 obtain ⟨⟨c, t, hb⟩, _⟩ := hc g 0 (hps _ (by
  rw [MemPlace.row, List.mem_map]
  refine ⟨0, ?_, rfl⟩
  rw [List.mem_range, ← Array.length_toList, hlen]; exact hN))
 simp only [World.var?, hG, Option.bind_some, hb, Option.some.injEq] at hv0
 refine ⟨t, ?_⟩
 rw [hb, hv0, ← hcs, Array.toArray_toList]
def tab10 : List Int := [1, 10, 100, 1000, 10000, 100000, 1000000, 10000000, 100000000, 1000000000, 10000000000, 100000000000, 1000000000000, 10000000000000, 100000000000000, 1000000000000000, 10000000000000000, 100000000000000000, 1000000000000000000, 10000000000000000000]
theorem glob_laid {w : World} (h : laidMetH Tryd.prog [("math/bits.deBruijn32tab", Rows.laid_math_bits_deBruijn32tab), ("math/bits.deBruijn64tab", Rows.laid_math_bits_deBruijn64tab), ("internal/strconv.uint64pow10", Rows.laid_internal_strconv_uint64pow10)] w) : GlobOk (fun _ => True) (fun _ _ => Go.undef) [] w := by
 rw [MakeChecks.laidMetH_plain _ _ _ (by kernel_rfl)] at h
 have h1 := tab_laid (P := Tryd.prog) (g := 0) (T := 142) (E := 5) (k := .u8) (N := 32) (n := "math/bits.deBruijn32tab") tab32 (List.mem_cons_self) rfl (by kernel_rfl) (by kernel_rfl) (by kernel_rfl) (by kernel_rfl) (by kernel_rfl) (by kernel_rfl) (by decide) rfl h
 have h2 := tab_laid (P := Tryd.prog) (g := 1) (T := 152) (E := 126) (k := .u64) (N := 20) (n := "internal/strconv.uint64pow10") tab10 (List.mem_cons_of_mem _ (List.mem_cons_of_mem _ List.mem_cons_self)) rfl (by kernel_rfl) (by kernel_rfl) (by kernel_rfl) (by kernel_rfl) (by kernel_rfl) (by kernel_rfl) (by decide) rfl h
 intro g T cs hg
 unfold globs at hg
 refine ⟨?_, owned_nil' _ _, trivial⟩
 split at hg
 ·rename_i e
  obtain ⟨-, rfl⟩ := Prod.mk.inj (Option.some.inj hg)
  subst e; exact h1
 ·split at hg
  ·rename_i e
   obtain ⟨-, rfl⟩ := Prod.mk.inj (Option.some.inj hg)
   subst e; exact h2
  ·cases hg
end Go.Proofs.YtfflpdekojlnmaaDoor
