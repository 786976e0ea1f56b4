/- tree.Vertices, tree.Edges: their contracts. -/
import Derived.Test.YteihcfhdhkamfaaOnce
namespace Go.Proofs.Yteihcfhdhkamfaa
open Go.RowKit Go.Shelf

attribute [local go_sem] Oper.semAt_some

theorem vnames_len (l : List Pat) : (vnames l).length = 2 * l.length := by
  induction l with
  | nil => rfl
  | cons p l ih => simp only [vnames, List.flatMap_cons, List.length_append, List.length_cons, List.length_nil] at *; omega
theorem own_block {w : World} {base : Nat} {e : TypeId} {z : Nat} {v : Value} {n : Nat} {xs : List Value} (h : w.ownsRow base e z v n xs) : ∀ b off n c, v = .slice (some ⟨b, off, none⟩) n c → base ≤ b := by
  intro b off m c hv
  rcases h.2 with ⟨rfl, _⟩ | ⟨g, cap, cur, rfl, hg, _⟩
  · cases hv
  · cases hv; exact hg
theorem enames_len (l : List Pat) : (enames l).length ≤ l.length := by
  rw [enames, List.length_map]; exact List.length_filter_le _ _

set_option maxRecDepth 100000 in
set_option maxHeartbeats 8000000 in
theorem vertices_any (q : Qry) (cx : List Value) (w : World) (hx : RdQry w q cx) (hN : q.pats.length ≤ 400000) :
    Calls Try.prog 23 #[.agg cx.toArray] w fun e w' => ∃ v, e = .returned v ∧ RdStrs w' (onceL (vnames q.pats)) v ∧ Below w.heap.size w w' ∧ ∀ b off n c, v = .slice (some ⟨b, off, none⟩) n c → w.heap.size ≤ b := by
  have hl := vnames_len q.pats
  have hs0 : (w.alloc (.cells cx.toArray 26)).heap.size = w.heap.size + 1 := by simp
  have hb0 : Below w.heap.size w (w.alloc (.cells cx.toArray 26)) := (Below.refl _ _).alloc (Nat.le_refl _) _
  have hbx := heap_new w (.cells cx.toArray 26)
  have H := Lib.hid (once_any 74 #[.pointer (some ⟨w.heap.size, 0, none⟩)] (vnames q.pats) (w.alloc (.cells cx.toArray 26)) (by omega) (fun _ _ => rfl)
    (fun W hW hZ => vertices_stops Fence.wide (fun _ => trivial) rfl rfl 8 _ _ w.heap.size 9 (by decide) q cx w W (by omega) hZ hx ((Cells.of hb0).trans (.of hW)) ((hW.block w.heap.size (by omega)).trans hbx)))
  have HB := Lib.hid hb0; have HS := Lib.hid hs0
  obtain ⟨v1, v2, v3, r1, r2, r3, rfl⟩ := hx
  obtain ⟨p1, c1, rfl, -, -⟩ := r1.shape
  obtain ⟨p2, c2, rfl, -, -⟩ := r2.shape
  obtain ⟨p3, c3, rfl, -, -⟩ := r3.shape
  clear hN hl hs0 hb0 hbx r1 r2 r3
  go_enter Try.func23, Try.ntmps23
  go_wp2_with fail
  refine H.out.mono ?_
  rintro e w1 ⟨v, rfl, hrow, hb⟩
  have HR := Lib.hid (rdStrs_own hrow); have HB1 := Lib.hid hb; have HF := Lib.hid (own_block hrow)
  clear hrow hb
  go_wp2_with fail
  go_ret
  exact ⟨v, rfl, HR.out, below_step HB.out HB1.out, fun b off n c e => by have := HF.out b off n c e; have := HS.out; omega⟩

set_option maxRecDepth 100000 in
set_option maxHeartbeats 8000000 in
theorem edges_any (q : Qry) (cx : List Value) (w : World) (hx : RdQry w q cx) (hN : q.pats.length ≤ 400000) :
    Calls Try.prog 25 #[.agg cx.toArray] w fun e w' => ∃ v, e = .returned v ∧ RdStrs w' (onceL (enames q.pats)) v ∧ Below w.heap.size w w' ∧ ∀ b off n c, v = .slice (some ⟨b, off, none⟩) n c → w.heap.size ≤ b := by
  have hl := enames_len q.pats
  have hs0 : (w.alloc (.cells cx.toArray 26)).heap.size = w.heap.size + 1 := by simp
  have hb0 : Below w.heap.size w (w.alloc (.cells cx.toArray 26)) := (Below.refl _ _).alloc (Nat.le_refl _) _
  have hbx := heap_new w (.cells cx.toArray 26)
  have H := Lib.hid (once_any 76 #[.pointer (some ⟨w.heap.size, 0, none⟩)] (enames q.pats) (w.alloc (.cells cx.toArray 26)) (by omega) (fun _ _ => rfl)
    (fun W hW hZ => edges_stops Fence.wide (fun _ => trivial) rfl rfl 8 _ _ w.heap.size 9 (by decide) q cx w W (by omega) hZ hx ((Cells.of hb0).trans (.of hW)) ((hW.block w.heap.size (by omega)).trans hbx)))
  have HB := Lib.hid hb0; have HS := Lib.hid hs0
  obtain ⟨v1, v2, v3, r1, r2, r3, rfl⟩ := hx
  obtain ⟨p1, c1, rfl, -, -⟩ := r1.shape
  obtain ⟨p2, c2, rfl, -, -⟩ := r2.shape
  obtain ⟨p3, c3, rfl, -, -⟩ := r3.shape
  clear hN hl hs0 hb0 hbx r1 r2 r3
  go_enter Try.func25, Try.ntmps25
  go_wp2_with fail
  refine H.out.mono ?_
  rintro e w1 ⟨v, rfl, hrow, hb⟩
  have HR := Lib.hid (rdStrs_own hrow); have HB1 := Lib.hid hb; have HF := Lib.hid (own_block hrow)
  clear hrow hb
  go_wp2_with fail
  go_ret
  exact ⟨v, rfl, HR.out, below_step HB.out HB1.out, fun b off n c e => by have := HF.out b off n c e; have := HS.out; omega⟩
end Go.Proofs.Yteihcfhdhkamfaa
