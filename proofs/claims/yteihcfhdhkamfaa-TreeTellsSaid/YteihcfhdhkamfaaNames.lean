/- tree.Vertices$1, tree.Edges$1: iterators over the names of a query's patterns. -/
import Derived.Test.YteihcfhdhkamfaaProg
import Derived.Test.YteihcfhdhkamfaaRange
import Derived.Test.YteihcfhdhkamfaaBase2
namespace Go.Proofs.Yteihcfhdhkamfaa
open Go.RowKit Go.Shelf

attribute [local go_sem] Oper.semAt_some

def vnames (l : List Pat) : List ByteArray := l.flatMap (fun p => [p.frm, p.to])
def enames (l : List Pat) : List ByteArray := (l.filter (fun p => !noB p.name)).map Pat.name
theorem vnames_succ {l : List Pat} {k : Nat} (h : k < l.length) : vnames (l.take (k + 1)) = vnames (l.take k) ++ [l[k].frm, l[k].to] := by
  rw [vnames, vnames, List.take_succ_eq_append_getElem h, List.flatMap_append]; simp
theorem vnames_take (l : List Pat) (k : Nat) : vnames l = vnames (l.take k) ++ vnames (l.drop k) := by
  rw [vnames, vnames, vnames, ← List.flatMap_append, List.take_append_drop]
theorem enames_succ {l : List Pat} {k : Nat} (h : k < l.length) : enames (l.take (k + 1)) = enames (l.take k) ++ (if noB l[k].name then [] else [l[k].name]) := by
  rw [enames, enames, List.take_succ_eq_append_getElem h, List.filter_append, List.map_append]
  congr 1
  cases hn : noB l[k].name <;> simp [hn]
theorem enames_take (l : List Pat) (k : Nat) : enames l = enames (l.take k) ++ enames (l.drop k) := by
  rw [enames, enames, enames, ← List.map_append, ← List.filter_append, List.take_append_drop]

set_option maxRecDepth 100000 in
set_option maxHeartbeats 8000000 in
theorem vertices_stops (F : Fence) (hF : ∀ f, F.fn f) (hd : F.depth = none) (hro : F.round = none) (n lo hi B : Nat) (et : TypeId) (het : 61 ≠ et) (q : Qry) (cx : List Value) (w0 w : World) (hlo : w0.heap.size ≤ lo) (hhi : hi ≤ w.heap.size)
    (hx : RdQry w0 q cx) (hc : Cells w0 w) (hB : w.heap[B]? = some (.cells cx.toArray 26)) :
    SeqStopsK F n Try.prog 74 #[.pointer (some ⟨B, 0, none⟩)] (fun s : ByteArray => #[Value.string s]) (Kept lo hi et) (fun L => L = vnames q.pats) (fun p => p <+: vnames q.pats) (vnames q.pats).length w := by
  intro l J Jx W hW hJ hJx hY h0
  obtain ⟨v1, v2, v3, r1, r2, r3, rfl⟩ := hx
  obtain ⟨p1, c1, rfl, hl1, hm1⟩ := r1.shape
  have hbw := (hW.block B (Array.getElem?_eq_some_iff.1 hB).1).trans hB
  have b0 := cell_of_block hbw 0
  simp only [List.getElem?_toArray, List.getElem?_cons_zero] at b0
  have hcW : Cells w0 W := hc.trans (.of hW)
  have hhW : hi ≤ W.heap.size := Nat.le_trans hhi hW.size
  unfold maxLen at hm1
  have hJa : ∀ pre (W' : World) o, J pre W' → J pre (W'.alloc o) := fun pre W' o h => hJ pre _ _ none h (World.grownBy_alloc W' o none) (fun r e => by cases e)
  have hYY : ∀ pre s W1, J pre W1 → pre.length < (vnames q.pats).length → YieldAt F (n - 1) Try.prog l #[.string s] W1 (YOk J Jx (Kept lo hi et) pre s W1) := hY
  have HR := Lib.hid r1; have HJ := Lib.hid hJa; have HY := Lib.hid hYY; have H0 := Lib.hid h0; have HC := Lib.hid hcW
  clear r1 r2 r3 hbw hB hc hW hJ hJx hJa hYY hY h0 hcW hhi
  have hdd : ∀ k : Nat, (F.depth.isSome = true → 1 ≤ k) := fun k h => by rw [hd] at h; cases h
  refine callsIn_of_wp Try.func74 rfl (hF _) ?_ hro
  simp only [Try.ntmps74, List.size_toArray, List.length_cons, List.length_nil, Nat.reduceAdd, Nat.reduceSub, Array.replicate_succ, Array.replicate_zero, List.push_toArray, List.append_toArray, List.nil_append, List.cons_append]
  gi_wp2_with fail
  gi_loopw [8] (fun i wr => ∃ k : Nat, i = .int .i64 k ∧ k ≤ q.pats.length ∧ Cells w0 wr ∧ hi ≤ wr.heap.size ∧ J (vnames (q.pats.take k)) wr) (fun i _ => q.pats.length - (intOf i).toNat)
  case atStart => exact ⟨0, rfl, Nat.zero_le _, HC.out, hhW, by simpa [vnames] using H0.out⟩
  case round =>
    obtain ⟨k, rfl, hk, hcw, hhw, hjk⟩ := hrel
    have HCW := Lib.hid hcw; have HJK := Lib.hid hjk
    clear hcw hjk
    by_cases hlt : k < q.pats.length
    · obtain ⟨b1, o1, k1, s1, l1, v1, rfl, hx1, hr1, a0, a1, a2, a3, a4, a5, a6, a7⟩ := rdPats_at HR.out hlt
      obtain ⟨pv, cv, rfl, -, -⟩ := hr1.shape
      replace a0 := HCW.out _ _ _ a0
      replace a1 := HCW.out _ _ _ a1
      replace a2 := HCW.out _ _ _ a2
      replace a3 := HCW.out _ _ _ a3
      replace a4 := HCW.out _ _ _ a4
      replace a5 := HCW.out _ _ _ a5
      replace a6 := HCW.out _ _ _ a6
      replace a7 := HCW.out _ _ _ a7
      have hq1 := lt_of_cell a0
      clear hx1 hr1
      have hlen := congrArg List.length (vnames_take q.pats (k + 1))
      rw [vnames_succ hlt] at hlen
      simp only [List.length_append, List.length_cons, List.length_nil] at hlen
      obtain ⟨W1, hW1⟩ : ∃ W1, W1 = wr.alloc (.cells #[.string q.pats[k].frm, .string q.pats[k].to, .bool q.pats[k].path, .string q.pats[k].label, .string q.pats[k].name, .int .i64 k1, .string s1, .slice pv l1.length cv] 61) := ⟨_, rfl⟩
      have hbx1 : W1.heap[wr.heap.size]? = some (.cells #[.string q.pats[k].frm, .string q.pats[k].to, .bool q.pats[k].path, .string q.pats[k].label, .string q.pats[k].name, .int .i64 k1, .string s1, .slice pv l1.length cv] 61 (0, 0)) := by rw [hW1]; exact heap_new _ _
      have hj1 : J (vnames (q.pats.take k)) W1 := by rw [hW1]; exact HJ.out _ _ _ HJK.out
      have hcw1 : Cells w0 W1 := by rw [hW1]; exact HCW.out.trans (.of ((Below.refl _ _).alloc (Nat.le_refl _) _))
      have hs1 : W1.heap.size = wr.heap.size + 1 := by rw [hW1]; simp
      obtain ⟨fn, tmps, assign, body, hy, hR⟩ := HY.out (vnames (q.pats.take k)) q.pats[k].frm W1 hj1 (by omega)
      rw [hW1] at hy
      have HR1 := Lib.hid hR; have HB1 := Lib.hid hbx1; have HC1 := Lib.hid hcw1; have HS1 := Lib.hid hs1; have HW1 := Lib.hid hW1; have HL := Lib.hid hlen
      clear hR hbx1 hj1 hcw1 hs1 hW1 hlen
      gi_wp2_with fail
      rw [← HW1.out]
      refine HR1.out.mono ?_
      rintro e W2 (⟨rfl, hj2, hk2⟩ | ⟨rfl, hx2⟩)
      · have hbx2 := hk2.box hhw het HB1.out
        have e0 := cell_of_block hbx2 1
        simp only [List.getElem?_toArray, List.getElem?_cons_succ, List.getElem?_cons_zero] at e0
        have hc2 := hk2.cells HC1.out hlo
        have hsz2 := hk2.size
        obtain ⟨fn2, tmps2, assign2, body2, hy2, hR2⟩ := HY.out _ q.pats[k].to W2 hj2 (by have := HL.out; simp; omega)
        have HR2 := Lib.hid hR2; have HC2 := Lib.hid hc2; have HZ2 := Lib.hid hsz2
        clear hR2 hc2 hbx2 hj2 hk2 hsz2 hy
        gi_wp2_with fail
        refine HR2.out.mono ?_
        rintro e W3 (⟨rfl, hj3, hk3⟩ | ⟨rfl, hx3⟩)
        · have HJ3 := Lib.hid hj3; have HC3 := Lib.hid (hk3.cells HC2.out hlo); have HZ3 := Lib.hid hk3.size
          clear hj3 hk3
          gi_wp2_with fail
          go_roundw
          case rel => exact ⟨k + 1, by go_num, by omega, HC3.out, by have := HZ3.out; have := HZ2.out; have := HS1.out; omega, by rw [vnames_succ hlt]; simpa using HJ3.out⟩
          case measure => simp [intOf]; omega
        · have HX3 := Lib.hid hx3
          clear hx3
          gi_wp2_with fail
          refine bodyPost_ret (results_none rfl _ _ _) rfl ?_
          exact ⟨⟨_, rfl⟩, .inr ⟨_, ⟨vnames (q.pats.drop (k + 1)), by rw [vnames_take q.pats (k + 1), vnames_succ hlt]; simp⟩, HX3.out⟩⟩
      · have HX2 := Lib.hid hx2
        clear hx2
        gi_wp2_with fail
        (try refine ⟨fun _ h => (by cases h), ?_⟩)
        gi_wp2_with fail
        refine bodyPost_ret (results_none rfl _ _ _) rfl ?_
        exact ⟨⟨_, rfl⟩, .inr ⟨_, ⟨q.pats[k].to :: vnames (q.pats.drop (k + 1)), by rw [vnames_take q.pats (k + 1), vnames_succ hlt]; simp⟩, HX2.out⟩⟩
    · gi_wp2_with fail
      go_end0
      obtain rfl : k = q.pats.length := by omega
      exact ⟨⟨_, rfl⟩, .inl ⟨_, rfl, by simpa using HJK.out⟩⟩
set_option maxRecDepth 100000 in
set_option maxHeartbeats 8000000 in
theorem edges_stops (F : Fence) (hF : ∀ f, F.fn f) (hd : F.depth = none) (hro : F.round = none) (n lo hi B : Nat) (et : TypeId) (_het : 61 ≠ et) (q : Qry) (cx : List Value) (w0 w : World) (hlo : w0.heap.size ≤ lo) (hhi : hi ≤ w.heap.size)
    (hx : RdQry w0 q cx) (hc : Cells w0 w) (hB : w.heap[B]? = some (.cells cx.toArray 26)) :
    SeqStopsK F n Try.prog 76 #[.pointer (some ⟨B, 0, none⟩)] (fun s : ByteArray => #[Value.string s]) (Kept lo hi et) (fun L => L = enames q.pats) (fun p => p <+: enames q.pats) (enames q.pats).length w := by
  intro l J Jx W hW hJ hJx hY h0
  obtain ⟨v1, v2, v3, r1, r2, r3, rfl⟩ := hx
  obtain ⟨p1, c1, rfl, hl1, hm1⟩ := r1.shape
  have hbw := (hW.block B (Array.getElem?_eq_some_iff.1 hB).1).trans hB
  have b0 := cell_of_block hbw 0
  simp only [List.getElem?_toArray, List.getElem?_cons_zero] at b0
  have hcW : Cells w0 W := hc.trans (.of hW)
  have hhW : hi ≤ W.heap.size := Nat.le_trans hhi hW.size
  unfold maxLen at hm1
  have hJa : ∀ pre (W' : World) o, J pre W' → J pre (W'.alloc o) := fun pre W' o h => hJ pre _ _ none h (World.grownBy_alloc W' o none) (fun r e => by cases e)
  have hYY : ∀ pre s W1, J pre W1 → pre.length < (enames q.pats).length → YieldAt F (n - 1) Try.prog l #[.string s] W1 (YOk J Jx (Kept lo hi et) pre s W1) := hY
  have HR := Lib.hid r1; have HJ := Lib.hid hJa; have HY := Lib.hid hYY; have H0 := Lib.hid h0; have HC := Lib.hid hcW
  clear r1 r2 r3 hbw hB hc hW hJ hJx hJa hYY hY h0 hcW hhi
  have hdd : ∀ k : Nat, (F.depth.isSome = true → 1 ≤ k) := fun k h => by rw [hd] at h; cases h
  refine callsIn_of_wp Try.func76 rfl (hF _) ?_ hro
  simp only [Try.ntmps76, List.size_toArray, List.length_cons, List.length_nil, Nat.reduceAdd, Nat.reduceSub, Array.replicate_succ, Array.replicate_zero, List.push_toArray, List.append_toArray, List.nil_append, List.cons_append]
  gi_wp2_with fail
  gi_loopw [8] (fun i wr => ∃ k : Nat, i = .int .i64 k ∧ k ≤ q.pats.length ∧ Cells w0 wr ∧ hi ≤ wr.heap.size ∧ J (enames (q.pats.take k)) wr) (fun i _ => q.pats.length - (intOf i).toNat)
  case atStart => exact ⟨0, rfl, Nat.zero_le _, HC.out, hhW, by simpa [enames] using H0.out⟩
  case round =>
    obtain ⟨k, rfl, hk, hcw, hhw, hjk⟩ := hrel
    have HCW := Lib.hid hcw; have HJK := Lib.hid hjk
    clear hcw hjk
    by_cases hlt : k < q.pats.length
    · obtain ⟨b1, o1, k1, s1, l1, v1, rfl, hx1, hr1, a0, a1, a2, a3, a4, a5, a6, a7⟩ := rdPats_at HR.out hlt
      obtain ⟨pv, cv, rfl, -, -⟩ := hr1.shape
      replace a0 := HCW.out _ _ _ a0
      replace a1 := HCW.out _ _ _ a1
      replace a2 := HCW.out _ _ _ a2
      replace a3 := HCW.out _ _ _ a3
      replace a4 := HCW.out _ _ _ a4
      replace a5 := HCW.out _ _ _ a5
      replace a6 := HCW.out _ _ _ a6
      replace a7 := HCW.out _ _ _ a7
      have hq1 := lt_of_cell a0
      clear hx1 hr1
      have hlen := congrArg List.length (enames_take q.pats (k + 1))
      rw [enames_succ hlt] at hlen
      obtain ⟨W1, hW1⟩ : ∃ W1, W1 = wr.alloc (.cells #[.string q.pats[k].frm, .string q.pats[k].to, .bool q.pats[k].path, .string q.pats[k].label, .string q.pats[k].name, .int .i64 k1, .string s1, .slice pv l1.length cv] 61) := ⟨_, rfl⟩
      have hj1 : J (enames (q.pats.take k)) W1 := by rw [hW1]; exact HJ.out _ _ _ HJK.out
      have hcw1 : Cells w0 W1 := by rw [hW1]; exact HCW.out.trans (.of ((Below.refl _ _).alloc (Nat.le_refl _) _))
      have hs1 : W1.heap.size = wr.heap.size + 1 := by rw [hW1]; simp
      have he := isEmpty_noB q.pats[k].name
      cases hnb : noB q.pats[k].name
      · rw [hnb] at he
        have hse := enames_succ hlt
        rw [hnb] at hse hlen
        simp only [Bool.false_eq_true, if_false, List.length_append, List.length_cons, List.length_nil] at hse hlen
        obtain ⟨fn, tmps, assign, body, hy, hR⟩ := HY.out (enames (q.pats.take k)) q.pats[k].name W1 hj1 (by omega)
        rw [hW1] at hy
        have HR1 := Lib.hid hR; have HC1 := Lib.hid hcw1; have HS1 := Lib.hid hs1; have HW1 := Lib.hid hW1; have HSE := Lib.hid hse
        clear hR hj1 hcw1 hs1 hW1 hlen hnb hse
        gi_wp2_with fail
        rw [← HW1.out]
        refine HR1.out.mono ?_
        rintro e W2 (⟨rfl, hj2, hk2⟩ | ⟨rfl, hx2⟩)
        · have HJ2 := Lib.hid hj2; have HC2 := Lib.hid (hk2.cells HC1.out hlo); have HZ2 := Lib.hid hk2.size
          clear hj2 hk2
          gi_wp2_with fail
          go_roundw
          case rel => exact ⟨k + 1, by go_num, by omega, HC2.out, by have := HZ2.out; have := HS1.out; omega, by rw [HSE.out]; exact HJ2.out⟩
          case measure => simp [intOf]; omega
        · have HX2 := Lib.hid hx2
          clear hx2
          gi_wp2_with fail
          refine bodyPost_ret (results_none rfl _ _ _) rfl ?_
          exact ⟨⟨_, rfl⟩, .inr ⟨_, ⟨enames (q.pats.drop (k + 1)), by rw [enames_take q.pats (k + 1), HSE.out]⟩, HX2.out⟩⟩
      · rw [hnb] at he
        have hse := enames_succ hlt
        rw [hnb] at hse
        simp only [if_true, List.append_nil] at hse
        have HC1 := Lib.hid hcw1; have HS1 := Lib.hid hs1; have HW1 := Lib.hid hW1; have HSE := Lib.hid hse; have HJ1 := Lib.hid hj1
        clear hj1 hcw1 hs1 hW1 hlen hnb hse
        gi_wp2_with fail
        (try refine ⟨fun _ h => (by cases h), ?_⟩)
        gi_wp2_with fail
        rw [← HW1.out]
        go_roundw
        case rel => exact ⟨k + 1, by go_num, by omega, HC1.out, by have := HS1.out; omega, by rw [HSE.out]; exact HJ1.out⟩
        case measure => simp [intOf]; omega
    · gi_wp2_with fail
      go_end0
      obtain rfl : k = q.pats.length := by omega
      exact ⟨⟨_, rfl⟩, .inl ⟨_, rfl, by simpa using HJK.out⟩⟩
end Go.Proofs.Yteihcfhdhkamfaa
