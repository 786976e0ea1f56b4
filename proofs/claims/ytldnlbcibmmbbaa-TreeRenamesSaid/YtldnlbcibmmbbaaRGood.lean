/- kinescopelaw11: vertex, prop, good, awake. -/
import Derived.Laws.Rows
import Derived.Test.YtldnlbcibmmbbaaRRel
import Derived.Test.YtldnlbcibmmbbaaRVerts
import Derived.Test.YtldnlbcibmmbbaaRTreeD
import Derived.Test.YtldnlbcibmmbbaaRSame
namespace Go.Proofs.Ytldnlbcibmmbbaa
open Go.RowKit

attribute [local go_sem] Oper.semAt_some

def oVertex (s : ByteArray) : Opd := ⟨1, s, ⟨#[]⟩, ⟨0, 0, ⟨#[]⟩⟩⟩
def oProp (s k : ByteArray) : Opd := ⟨2, s, k, ⟨0, 0, ⟨#[]⟩⟩⟩

set_option maxRecDepth 100000 in
set_option maxHeartbeats 8000000 in
theorem vertex11_any (s : ByteArray) (w : World) : Calls Try.prog 41 #[.string s] w (Ret w (.agg (oVertex s).cells.toArray)) := by
 go_enter Try.func41, Try.ntmps41
 go_wp2_with fail

 refine bodyPost_ret (v := .agg (oVertex s).cells.toArray) (by simp [results, Try.results41, go_sem, oVertex, Opd.cells]) rfl ⟨rfl, (Below.refl _ _).alloc (Nat.le_refl _) _⟩
set_option maxRecDepth 100000 in
set_option maxHeartbeats 8000000 in
theorem prop11_any (s k : ByteArray) (w : World) : Calls Try.prog 42 #[.string s, .string k] w (Ret w (.agg (oProp s k).cells.toArray)) := by
 go_enter Try.func42, Try.ntmps42
 go_wp2_with fail

 refine bodyPost_ret (v := .agg (oProp s k).cells.toArray) (by simp [results, Try.results42, go_sem, oProp, Opd.cells]) rfl ⟨rfl, (Below.refl _ _).alloc (Nat.le_refl _) _⟩

def b1 (c : UInt8) : ByteArray := ⟨#[c]⟩
def goodQ : Qry := ⟨[⟨b1 97, b1 98, false, b1 120, b1 101, .mk 0 ⟨#[]⟩ []⟩, ⟨b1 98, b1 99, true, ⟨#[]⟩, ⟨#[]⟩, .mk 4 ⟨#[]⟩ [.mk 1 (b1 121) []]⟩], [], [oVertex (b1 97), oProp (b1 101) (b1 107)], 5, 2⟩

def Spec.pats (xs : List Pat) : Spec := ⟨fun v w => RdPats w xs v, fun _ _ _ hb h => rdPats_below hb h⟩

theorem alloc3 (w : World) (a b c : Obj) {W0 : World} (h : ((w.alloc a).alloc b).alloc c = W0) : W0.heap.size = w.heap.size + 3 ∧ W0.heap[w.heap.size]? = some a ∧ W0.heap[w.heap.size + 1]? = some b ∧ W0.heap[w.heap.size + 1 + 1]? = some c ∧ Below w.heap.size w W0 := by
 subst h
 have h1 : (w.alloc a).heap.size = w.heap.size + 1 := by simp
 have h2 : ((w.alloc a).alloc b).heap.size = w.heap.size + 1 + 1 := by simp
 have h3 : (((w.alloc a).alloc b).alloc c).heap.size = w.heap.size + 1 + 1 + 1 := by simp
 have b2 : Below (w.alloc a).heap.size (w.alloc a) ((w.alloc a).alloc b) := (Below.refl _ _).alloc (Nat.le_refl _) _
 have b3 : Below ((w.alloc a).alloc b).heap.size ((w.alloc a).alloc b) (((w.alloc a).alloc b).alloc c) := (Below.refl _ _).alloc (Nat.le_refl _) _
 have g1 := heap_new w a
 have g2 := heap_new (w.alloc a) b
 have g3 := heap_new ((w.alloc a).alloc b) c
 rw [h1] at g2
 rw [h2] at g3
 refine ⟨h3, ?_, ?_, g3, ?_⟩
 ·rw [b3.block _ (by omega), b2.block _ (by omega)]; exact g1
 ·rw [b3.block _ (by omega)]; exact g2
 ·exact below_step ((Below.refl _ _).alloc (Nat.le_refl _) _) (below_step b2 b3)
theorem rdY {w : World} {b : Nat} {t : TypeId} {fz : Nat × Nat} (h : w.heap[b]? = some (.cells #[.int .i64 1, .string (b1 121), .slice none 0 0] t fz)) : RdExs w [.mk 1 (b1 121) []] (.slice (some ⟨b, 0, none⟩) 1 1) := by
 rw [RdExs]
 refine ⟨b, 0, 1, [.int .i64 1, .string (b1 121), .slice none 0 0], rfl, by simp, by unfold maxLen; omega, ?_, ?_, by rw [RdExL]; trivial⟩
 ·rw [RdEx]; exact ⟨_, rfl, by rw [RdExs]; exact .inl (.inl rfl)⟩
 ·refine ⟨?_, ?_, ?_, trivial⟩ <;> (rw [cell_of_block h]; rfl)

theorem rdGoodPats {w : World} {g n : Nat} {t u : TypeId} {fz fy : Nat × Nat} (h : w.heap[g]? = some (.cells #[.string ⟨#[97]⟩, .string ⟨#[98]⟩, .bool false, .string ⟨#[120]⟩, .string ⟨#[101]⟩, .int .i64 0, .string ⟨#[]⟩, .slice none 0 0,
      .string ⟨#[98]⟩, .string ⟨#[99]⟩, .bool true, .string ⟨#[]⟩, .string ⟨#[]⟩, .int .i64 4, .string ⟨#[]⟩, .slice (some ⟨n, 0, none⟩) 1 1] t fz)) (hy : w.heap[n]? = some (.cells #[.int .i64 1, .string (b1 121), .slice none 0 0] u fy)) : RdPats w goodQ.pats (.slice (some ⟨g, 0, none⟩) 2 2) := by
 refine rdSl_block h (fun p => [.string p.frm, .string p.to, .bool p.path, .string p.label, .string p.name, .int .i64 p.expr.kind, .string p.expr.label, if p.path then .slice (some ⟨n, 0, none⟩) 1 1 else .slice none 0 0]) ?_ (fun _ _ => rfl) rfl rfl (Nat.le_refl 2) (show 2 ≤ maxLen by unfold maxLen; omega)
 intro p hp
 simp only [goodQ, List.mem_cons, List.not_mem_nil, or_false] at hp
 rcases hp with rfl | rfl
 ·exact ⟨_, _, _, _, rfl, by rw [RdExs]; exact .inl (.inl rfl), rfl⟩
 ·exact ⟨_, _, _, _, rfl, rdY hy, rfl⟩
theorem rdGoodRet {w : World} {g : Nat} {t : TypeId} {fz : Nat × Nat} (h : w.heap[g]? = some (.cells #[.int .i64 1, .string (b1 97), .string ⟨#[]⟩, .int .i64 0, .int .i64 0, .string ⟨#[]⟩, .int .i64 2, .string (b1 101), .string (b1 107), .int .i64 0, .int .i64 0, .string ⟨#[]⟩] t fz)) :
  RdOpds w goodQ.ret (.slice (some ⟨g, 0, none⟩) 2 2) := by
 refine rdSl_block (xs := goodQ.ret) (sz := 6) (rd := RdOpd) h Opd.cells ?_ ?_ rfl rfl (Nat.le_refl 2) (show 2 ≤ maxLen by unfold maxLen; omega)
 ·exact fun _ _ => rfl
 ·exact fun _ _ => rfl

def IsRow (n : Nat) (C : Array Value) (t : TypeId) (v : Value) (w : World) : Prop := ∃ g, v = .slice (some ⟨g, 0, none⟩) 2 2 ∧ n ≤ g ∧ w.heap[g]? = some (.cells C t (0, 0))
theorem IsRow.below {n : Nat} {C : Array Value} {t : TypeId} {v : Value} {w w' : World} (hb : Below w.heap.size w w') (h : IsRow n C t v w) : IsRow n C t v w' := by
 obtain ⟨g, h1, h2, h3⟩ := h
 exact ⟨g, h1, h2, (hb.block g (Array.getElem?_eq_some_iff.1 h3).1).trans h3⟩
def Spec.row (n : Nat) (C : Array Value) (t : TypeId) : Spec := ⟨IsRow n C t, fun _ _ _ hb h => h.below hb⟩
def Spec.two (n : Nat) (C D : Array Value) (t u : TypeId) : Spec := ⟨fun v w => ∃ a b, v = .agg #[a, .slice none 0 0, b, .int .i64 5, .int .i64 2] ∧ IsRow n C t a w ∧ IsRow n D u b w, fun _ _ _ hb h => by obtain ⟨a, b, h1, h2, h3⟩ := h; exact ⟨a, b, h1, h2.below hb, h3.below hb⟩⟩
theorem set5 {w : World} {k : Nat} {a b c d e : Value} {T : TypeId} {fz : Nat × Nat} (h : w.heap[k]? = some (.cells #[a, b, c, d, e] T fz)) (a' b' c' d' e' : Value) {W : World}
  (hW : ((((w.setCell ⟨k, 0, none⟩ a').setCell ⟨k, 1, none⟩ b').setCell ⟨k, 2, none⟩ c').setCell ⟨k, 3, none⟩ d').setCell ⟨k, 4, none⟩ e' = W) {n : Nat} {w0 : World} (hn : n ≤ k) (hb : Below n w0 w) :
  W.heap[k]? = some (.cells #[a', b', c', d', e'] T fz) ∧ (∀ j, k ≠ j → W.heap[j]? = w.heap[j]?) ∧ Below n w0 W := by
 subst hW
 refine ⟨by simp [World.setCell, Array.getElem?_modify, h], fun j hj => by simp [World.setCell, Array.getElem?_modify, hj], ?_⟩
 exact ((((hb.setCell (p := ⟨k, 0, none⟩) hn _).setCell (p := ⟨k, 1, none⟩) hn _).setCell (p := ⟨k, 2, none⟩) hn _).setCell (p := ⟨k, 3, none⟩) hn _).setCell (p := ⟨k, 4, none⟩) hn _

set_option maxRecDepth 100000 in
set_option maxHeartbeats 1000000 in
theorem good11_any (w : World) : Calls Try.prog 15 #[] w fun e w' => ∃ cx : List Value, e = .returned (.agg cx.toArray) ∧ RdQry w' goodQ cx ∧ Below w.heap.size w w' := by
 go_enter Try.func15, Try.ntmps15
 go_wp2_with fail
 generalize hW0 : ((w.alloc _).alloc _).alloc _ = W0
 obtain ⟨hs, k0, k1, k2, hb⟩ := alloc3 w _ _ _ hW0
 clear hW0
 refine wp_region_rel [Spec.eq (.agg #[.string ⟨#[97]⟩, .string ⟨#[98]⟩, .bool false, .string ⟨#[120]⟩, .string ⟨#[101]⟩, .int .i64 0, .string ⟨#[]⟩, .slice none 0 0]), Spec.eq (.agg #[.int .i64 4, .string ⟨#[]⟩, .slice (some ⟨w.heap.size + 1, 0, none⟩) 1 1]), Spec.eq (.agg #[.string ⟨#[98]⟩, .string ⟨#[99]⟩, .bool true, .string ⟨#[]⟩, .string ⟨#[]⟩, .int .i64 4, .string ⟨#[]⟩, .slice (some ⟨w.heap.size + 1, 0, none⟩) 1 1]), Spec.row (w.heap.size + 1) #[.string ⟨#[97]⟩, .string ⟨#[98]⟩, .bool false, .string ⟨#[120]⟩, .string ⟨#[101]⟩, .int .i64 0, .string ⟨#[]⟩, .slice none 0 0, .string ⟨#[98]⟩, .string ⟨#[99]⟩, .bool true, .string ⟨#[]⟩, .string ⟨#[]⟩, .int .i64 4, .string ⟨#[]⟩, .slice (some ⟨w.heap.size + 1, 0, none⟩) 1 1] 45, Spec.eq (.agg (oVertex (b1 97)).cells.toArray), Spec.eq (.agg (oProp (b1 101) (b1 107)).cells.toArray), Spec.row (w.heap.size + 1) #[.int .i64 1, .string (b1 97), .string ⟨#[]⟩, .int .i64 0, .int .i64 0, .string ⟨#[]⟩, .int .i64 2, .string (b1 101), .string (b1 107), .int .i64 0, .int .i64 0, .string ⟨#[]⟩] 64, Spec.two (w.heap.size + 1) #[.string ⟨#[97]⟩, .string ⟨#[98]⟩, .bool false, .string ⟨#[120]⟩, .string ⟨#[101]⟩, .int .i64 0, .string ⟨#[]⟩, .slice none 0 0, .string ⟨#[98]⟩, .string ⟨#[99]⟩, .bool true, .string ⟨#[]⟩, .string ⟨#[]⟩, .int .i64 4, .string ⟨#[]⟩, .slice (some ⟨w.heap.size + 1, 0, none⟩) 1 1] #[.int .i64 1, .string (b1 97), .string ⟨#[]⟩, .int .i64 0, .int .i64 0, .string ⟨#[]⟩, .int .i64 2, .string (b1 101), .string (b1 107), .int .i64 0, .int .i64 0, .string ⟨#[]⟩] 45 64] rfl (by kernel_rfl) ?_
 have K1 : ∀ wr, Below W0.drew.heap.size W0.drew wr → wr.heap[w.heap.size + 1]? = some (.cells #[.int .i64 1, .string (b1 121), .slice none 0 0] 43 (0, 0)) := fun wr hE => (hE.block _ (show w.heap.size + 1 < W0.heap.size by omega)).trans k1
 have K2 : ∀ wr, Below W0.drew.heap.size W0.drew wr → wr.heap[w.heap.size + 1 + 1]? = some (.cells #[.int .i64 4, .string ⟨#[]⟩, .slice (some ⟨w.heap.size + 1, 0, none⟩) 1 1] 43 (0, 0)) := fun wr hE => (hE.block _ (show w.heap.size + 1 + 1 < W0.heap.size by omega)).trans k2
 refine relObl_step (fun x wr hE hD => .inl ⟨rfl, ?_⟩) ?_
 ·clear hD
  go_simp
  exact ⟨rfl, Below.refl _ _⟩
 refine relObl_step (fun x wr hE hD => .inl ⟨rfl, ?_⟩) ?_
 ·clear hD
  have c0 := cell_of_block (K2 wr hE) 0
  have c1 := cell_of_block (K2 wr hE) 1
  have c2 := cell_of_block (K2 wr hE) 2
  simp only [List.getElem?_toArray, List.getElem?_cons_zero, List.getElem?_cons_succ] at c0 c1 c2
  have HK := Lib.hid hE
  clear hE K1 K2 k0 k1 k2
  go_simp
  exact ⟨rfl, Below.refl _ _⟩
 refine relObl_step (fun x wr hE hD => .inl ⟨rfl, ?_⟩) ?_
 ·have h1 : x 1 = _ := hD 1 (by kernel_rfl)
  clear hD
  go_simp
  exact ⟨rfl, Below.refl _ _⟩
 refine relObl_step (fun x wr hE hD => .inl ⟨rfl, ?_⟩) ?_
 ·have h0 : x 0 = _ := hD 0 (by kernel_rfl)
  have h2 : x 2 = _ := hD 2 (by kernel_rfl)
  clear hD
  go_simp
  have hz := hE.size
  simp only [World.drew] at hz
  refine out_value (S := Spec.row _ _ 45) ?_ ((Below.refl _ _).alloc (Nat.le_refl _) _)
  exact ⟨wr.heap.size, rfl, by omega, heap_new wr _⟩
 refine relObl_step (fun x wr hE hD => .inl ⟨rfl, ?_⟩) ?_
 ·clear hD
  go_simp
  refine (vertex11_any _ _).mono ?_
  rintro e w' ⟨rfl, hb'⟩
  exact ⟨_, rfl, rfl, hb'⟩
 refine relObl_step (fun x wr hE hD => .inl ⟨rfl, ?_⟩) ?_
 ·clear hD
  go_simp
  refine (prop11_any _ _ _).mono ?_
  rintro e w' ⟨rfl, hb'⟩
  exact ⟨_, rfl, rfl, hb'⟩
 refine relObl_step (fun x wr hE hD => .inl ⟨rfl, ?_⟩) ?_
 ·have h4 : x 4 = _ := hD 4 (by kernel_rfl)
  have h5 : x 5 = _ := hD 5 (by kernel_rfl)
  clear hD
  simp only [oVertex, oProp, Opd.cells] at h4 h5
  go_simp
  have hz := hE.size
  simp only [World.drew] at hz
  refine out_value (S := Spec.row _ _ 64) ?_ ((Below.refl _ _).alloc (Nat.le_refl _) _)
  exact ⟨wr.heap.size, rfl, by omega, heap_new wr _⟩
 refine relObl_step (fun x wr hE hD => .inl ⟨rfl, ?_⟩) ?_
 ·have h3 : IsRow (w.heap.size + 1) #[.string ⟨#[97]⟩, .string ⟨#[98]⟩, .bool false, .string ⟨#[120]⟩, .string ⟨#[101]⟩, .int .i64 0, .string ⟨#[]⟩, .slice none 0 0, .string ⟨#[98]⟩, .string ⟨#[99]⟩, .bool true, .string ⟨#[]⟩, .string ⟨#[]⟩, .int .i64 4, .string ⟨#[]⟩, .slice (some ⟨w.heap.size + 1, 0, none⟩) 1 1] 45 (x 3) wr := hD 3 (by kernel_rfl)
  have h6 : IsRow (w.heap.size + 1) #[.int .i64 1, .string (b1 97), .string ⟨#[]⟩, .int .i64 0, .int .i64 0, .string ⟨#[]⟩, .int .i64 2, .string (b1 101), .string (b1 107), .int .i64 0, .int .i64 0, .string ⟨#[]⟩] 64 (x 6) wr := hD 6 (by kernel_rfl)
  clear hD
  have h3' := h3
  have h6' := h6
  obtain ⟨g3, e3, -⟩ := h3'
  obtain ⟨g6, e6, -⟩ := h6'
  have HK := Lib.hid hE
  clear hE K1 K2 k0 k1 k2
  rw [e3] at h3; rw [e6] at h6
  have H3 := Lib.hid h3; have H6 := Lib.hid h6
  clear h3 h6
  go_simp
  refine out_value (S := Spec.two _ _ _ 45 64) ?_ (Below.refl _ _)
  exact ⟨_, _, rfl, H3.out, H6.out⟩
 refine relObl_last (fun x wr hE hD => ⟨rfl, ?_⟩)
 have h7 : ∃ a b, x 7 = .agg #[a, .slice none 0 0, b, .int .i64 5, .int .i64 2] ∧ IsRow (w.heap.size + 1) #[.string ⟨#[97]⟩, .string ⟨#[98]⟩, .bool false, .string ⟨#[120]⟩, .string ⟨#[101]⟩, .int .i64 0, .string ⟨#[]⟩, .slice none 0 0, .string ⟨#[98]⟩, .string ⟨#[99]⟩, .bool true, .string ⟨#[]⟩, .string ⟨#[]⟩, .int .i64 4, .string ⟨#[]⟩, .slice (some ⟨w.heap.size + 1, 0, none⟩) 1 1] 45 a wr ∧ IsRow (w.heap.size + 1) #[.int .i64 1, .string (b1 97), .string ⟨#[]⟩, .int .i64 0, .int .i64 0, .string ⟨#[]⟩, .int .i64 2, .string (b1 101), .string (b1 107), .int .i64 0, .int .i64 0, .string ⟨#[]⟩] 64 b wr := hD 7 (by omega)
 clear hD
 simp only [Act.put, List.setIfInBounds_toArray, List.set_cons_zero, List.set_cons_succ]
 obtain ⟨_, _, h7, ⟨g3, rfl, m3, q3⟩, ⟨g6, rfl, m6, q6⟩⟩ := h7
 have hz : wr.heap[w.heap.size]? = some (.cells #[.slice none 0 0, .slice none 0 0, .slice none 0 0, .int .i64 0, .int .i64 0] 26 (0, 0)) := (hE.block _ (show w.heap.size < W0.heap.size by omega)).trans k0
 have d0 := cell_of_block hz 0
 have d1 := cell_of_block hz 1
 have d2 := cell_of_block hz 2
 have d3 := cell_of_block hz 3
 have d4 := cell_of_block hz 4
 have df := frozen_of_block hz
 simp only [List.getElem?_toArray, List.getElem?_cons_zero, List.getElem?_cons_succ] at d0 d1 d2 d3 d4
 have HY := Lib.hid (K1 wr hE); have HQ3 := Lib.hid q3; have HQ6 := Lib.hid q6; have HZ := Lib.hid hz
 have HB := Lib.hid (show Below w.heap.size w wr from below_step hb.drew hE)
 clear hb hE hz K1 K2 k0 k1 k2 q3 q6
 simp only [Nat.zero_add, Nat.reduceAdd, h7]
 unfold Oper.wp
 go_simp
 rename_i K hK
 refine hK _ _ ?_
 go_wp2_with fail
 generalize hW : World.setCell _ _ _ = W
 obtain ⟨s1, s2, s3⟩ := set5 HZ.out _ _ _ _ _ hW (Nat.le_refl _) HB.out
 refine bodyPost_ret (v := .agg #[.slice (some ⟨g3, 0, none⟩) 2 2, .slice none 0 0, .slice (some ⟨g6, 0, none⟩) 2 2, .int .i64 5, .int .i64 2]) (results_cell_row rfl _ _ w.heap.size 26 _ (0, 0) _ rfl s1 rfl rfl (by kernel_rfl)) rfl ?_
 refine ⟨[.slice (some ⟨g3, 0, none⟩) 2 2, .slice none 0 0, .slice (some ⟨g6, 0, none⟩) 2 2, .int .i64 5, .int .i64 2], rfl, ⟨_, _, _, ?_, .inl ⟨.inl rfl, rfl⟩, ?_, rfl⟩, s3⟩
 ·exact rdGoodPats ((s2 g3 (by omega)).trans HQ3.out) ((s2 _ (by omega)).trans HY.out)
 ·exact rdGoodRet ((s2 g6 (by omega)).trans HQ6.out)
end Go.Proofs.Ytldnlbcibmmbbaa
