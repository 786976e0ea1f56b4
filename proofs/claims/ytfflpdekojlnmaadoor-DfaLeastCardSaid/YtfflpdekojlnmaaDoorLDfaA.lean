/- dfa: the labels of a state, rising, and where they lead: maps.Keys, slices.Sorted, the iterator. -/
import Derived.Test.YtfflpdekojlnmaaDoorLOnceC
import Derived.Test.YtfflpdekojlnmaaDoorLDfaQ
import Derived.Shelf.SlIter.Sorted
import Derived.Shelf.SortM.Plain
import Derived.Shelf.SortM.SortNone
set_option linter.unusedSimpArgs false
set_option linter.unusedVariables false
namespace Go.Proofs.YtfflpdekojlnmaaDoor
open Go.RowKit

def keysSRen : Go.Shelf.Ren := ⟨fun | 7 => 55 | 10 => 74 | n => n, fun | 23 => 60 | 26 => 9 | 3 => 3 | 28 => 109 | 0 => 0 | 27 => 108 | 33 => 111 | 4 => 4 | n => n, fun n => n⟩
theorem keysSLays : SlLaysZ.n7 Tryd.prog keysSRen := {
 mixed := by kernel_rfl
 f7 := ⟨Tryd.f55.name, by decide, Tryd.func55⟩
 f10 := ⟨Tryd.f74.name, by decide, Tryd.func74⟩
 t0 := by kernel_rfl
 a0 := fun w => by kernel_rfl
 z0 := fun w => by kernel_rfl
 v0 := fun w => by kernel_rfl
 t4 := by kernel_rfl
 a4 := fun w => by kernel_rfl
 z4 := fun w => by kernel_rfl
 v4 := fun w => by kernel_rfl
 t23 := by kernel_rfl
 a23 := fun w => by kernel_rfl
 z23 := fun w => by kernel_rfl
 v23 := fun w => by kernel_rfl
 t26 := by kernel_rfl
 a26 := fun w => by kernel_rfl
 z26 := fun w => by kernel_rfl
 v26 := fun w => by kernel_rfl
 t27 := by kernel_rfl
 a27 := fun w => by kernel_rfl
 z27 := fun w => by kernel_rfl
 v27 := fun w => by kernel_rfl
 t28 := by kernel_rfl
 a28 := fun w => by kernel_rfl
 z28 := fun w => by kernel_rfl
 v28 := fun w => by kernel_rfl
 t33 := by kernel_rfl
 a33 := fun w => by kernel_rfl
 z33 := fun w => by kernel_rfl
 v33 := fun w => by kernel_rfl }
def sortedSRen : Go.Shelf.Ren := ⟨fun | 6 => 54 | 8 => 73 | 9 => 25 | 11 => 89 | 13 => 44 | 12 => 43 | 23 => 69 | 24 => 70 | 14 => 60 | 15 => 61 | 16 => 62 | 17 => 63 | 18 => 64 | 19 => 65 | 20 => 66 | 21 => 67 | 22 => 68 | 25 => 81 | 26 => 82 | 27 => 83 | 28 => 84 | 29 => 85 | 30 => 86 | 31 => 91 | n => n, fun | 26 => 9 | 28 => 109 | 24 => 36 | 0 => 0 | 3 => 3 | 37 => 92 | 48 => 63 | 50 => 126 | 4 => 4 | 40 => 118 | 39 => 117 | 45 => 38 | 5 => 5 | 9 => 9 | 51 => 131 | 55 => 135 | 57 => 143 | 58 => 144 | 33 => 111 | n => n, fun n => n⟩
theorem sortedSLays : SlLaysZ.n6 Tryd.prog sortedSRen := {
 mixed := by kernel_rfl
 f6 := ⟨Tryd.f54.name, by decide, Tryd.func54⟩
 f8 := ⟨Tryd.f73.name, by decide, Tryd.func73⟩
 f11 := ⟨Tryd.f89.name, by decide, Tryd.func89⟩
 t0 := by kernel_rfl
 a0 := fun w => by kernel_rfl
 z0 := fun w => by kernel_rfl
 v0 := fun w => by kernel_rfl
 t24 := by kernel_rfl
 a24 := fun w => by kernel_rfl
 z24 := fun w => by kernel_rfl
 v24 := fun w => by kernel_rfl
 t26 := by kernel_rfl
 a26 := fun w => by kernel_rfl
 z26 := fun w => by kernel_rfl
 v26 := fun w => by kernel_rfl
 t28 := by kernel_rfl
 a28 := fun w => by kernel_rfl
 z28 := fun w => by kernel_rfl
 v28 := fun w => by kernel_rfl
 i26 := by kernel_rfl }
def sortSRen : Go.Shelf.Ren := ⟨fun | 6 => 25 | 8 => 44 | 9 => 43 | 19 => 69 | 20 => 70 | 21 => 60 | 22 => 61 | 23 => 62 | 24 => 63 | 25 => 64 | 26 => 65 | 27 => 66 | 28 => 67 | 29 => 68 | 36 => 81 | 31 => 82 | 32 => 83 | 37 => 84 | 38 => 85 | 39 => 86 | 41 => 91 | n => n, fun | 27 => 36 | 29 => 9 | 3 => 3 | 32 => 92 | 26 => 36 | 0 => 0 | 44 => 63 | 46 => 126 | 4 => 4 | 36 => 118 | 35 => 117 | 41 => 38 | 5 => 5 | 9 => 9 | 53 => 131 | 57 => 135 | 63 => 143 | 64 => 144 | n => n, fun n => n⟩
theorem sortSLays : SlLaysM.n6 Tryd.prog sortSRen := {
 mixed := by kernel_rfl
 f6 := ⟨Tryd.f25.name, by decide, Tryd.func25⟩
 f8 := Tryd.func44
 f9 := ⟨Tryd.f43.name, by decide, Tryd.func43⟩
 f19 := Tryd.func69
 f20 := Tryd.func70
 f21 := ⟨Tryd.f60.name, by decide, Tryd.func60⟩
 f22 := ⟨Tryd.f61.name, by decide, Tryd.func61⟩
 f23 := ⟨Tryd.f62.name, by decide, Tryd.func62⟩
 f24 := ⟨Tryd.f63.name, by decide, Tryd.func63⟩
 f25 := ⟨Tryd.f64.name, by decide, Tryd.func64⟩
 f26 := ⟨Tryd.f65.name, by decide, Tryd.func65⟩
 f27 := ⟨Tryd.f66.name, by decide, Tryd.func66⟩
 f28 := ⟨Tryd.f67.name, by decide, Tryd.func67⟩
 f29 := ⟨Tryd.f68.name, by decide, Tryd.func68⟩
 f31 := Tryd.func82
 f32 := Tryd.func83
 f36 := ⟨Tryd.f81.name, by decide, Tryd.func81⟩
 f37 := ⟨Tryd.f84.name, by decide, Tryd.func84⟩
 f38 := ⟨Tryd.f85.name, by decide, Tryd.func85⟩
 f39 := ⟨Tryd.f86.name, by decide, Tryd.func86⟩
 f41 := ⟨Tryd.f91.name, by decide, Tryd.func91⟩
 t0 := by kernel_rfl
 a0 := fun w => by kernel_rfl
 z0 := fun w => by kernel_rfl
 v0 := fun w => by kernel_rfl
 t3 := by kernel_rfl
 a3 := fun w => by kernel_rfl
 z3 := fun w => by kernel_rfl
 v3 := fun w => by kernel_rfl
 t4 := by kernel_rfl
 a4 := fun w => by kernel_rfl
 z4 := fun w => by kernel_rfl
 v4 := fun w => by kernel_rfl
 t5 := by kernel_rfl
 a5 := fun w => by kernel_rfl
 z5 := fun w => by kernel_rfl
 v5 := fun w => by kernel_rfl
 t9 := by kernel_rfl
 a9 := fun w => by kernel_rfl
 z9 := fun w => by kernel_rfl
 v9 := fun w => by kernel_rfl
 t26 := by kernel_rfl
 a26 := fun w => by kernel_rfl
 z26 := fun w => by kernel_rfl
 v26 := fun w => by kernel_rfl
 t27 := by kernel_rfl
 a27 := fun w => by kernel_rfl
 z27 := fun w => by kernel_rfl
 v27 := fun w => by kernel_rfl
 t29 := by kernel_rfl
 a29 := fun w => by kernel_rfl
 z29 := fun w => by kernel_rfl
 v29 := fun w => by kernel_rfl
 t32 := by kernel_rfl
 a32 := fun w => by kernel_rfl
 z32 := fun w => by kernel_rfl
 v32 := fun w => by kernel_rfl
 t35 := by kernel_rfl
 a35 := fun w => by kernel_rfl
 z35 := fun w => by kernel_rfl
 v35 := fun w => by kernel_rfl
 t36 := by kernel_rfl
 a36 := fun w => by kernel_rfl
 z36 := fun w => by kernel_rfl
 v36 := fun w => by kernel_rfl
 t41 := by kernel_rfl
 a41 := fun w => by kernel_rfl
 z41 := fun w => by kernel_rfl
 v41 := fun w => by kernel_rfl
 t44 := by kernel_rfl
 a44 := fun w => by kernel_rfl
 z44 := fun w => by kernel_rfl
 v44 := fun w => by kernel_rfl
 t46 := by kernel_rfl
 a46 := fun w => by kernel_rfl
 z46 := fun w => by kernel_rfl
 v46 := fun w => by kernel_rfl
 t53 := by kernel_rfl
 a53 := fun w => by kernel_rfl
 z53 := fun w => by kernel_rfl
 v53 := fun w => by kernel_rfl
 t57 := by kernel_rfl
 a57 := fun w => by kernel_rfl
 z57 := fun w => by kernel_rfl
 v57 := fun w => by kernel_rfl
 t63 := by kernel_rfl
 a63 := fun w => by kernel_rfl
 z63 := fun w => by kernel_rfl
 v63 := fun w => by kernel_rfl
 t64 := by kernel_rfl
 a64 := fun w => by kernel_rfl
 z64 := fun w => by kernel_rfl
 v64 := fun w => by kernel_rfl }

def mRow (r : LRow) : List (List AV) := r.map (fun p => [.v (.string p.1), .v (.int .i64 (p.2 : Nat))])
theorem mRow_len (r : LRow) : (mRow r).length = r.length := by simp [mRow]
@[go_sem] theorem wf_mRow (n : Nat) (r : LRow) : wfR n (mRow r) = true := wfR_map _ (fun p => rfl) _
theorem aGet_r (s : ByteArray) : ∀ r : LRow, aGet .string (.string s) (mRow r) = some ((look r s).map (fun n => .v (.int .i64 (n : Nat))))
 | [] => rfl
 | p :: l => by
  have ih := aGet_r s l
  simp only [mRow, List.map_cons, aGet]
  rw [if_pos (show isKeyB .string (.string p.1) = true from rfl)]
  by_cases h : keyEqB (.string s) (.string p.1) = true
  ·have h' : seqb s p.1 = true := h
   rw [if_pos h]; simp [look, h']
  ·have h' : seqb s p.1 = false := by
    cases hh : seqb s p.1
    ·rfl
    ·exact absurd hh h
   rw [if_neg h]; simp only [mRow] at ih; rw [ih]; simp [look, h']
theorem aSet_r (s : ByteArray) (n : Nat) : ∀ r : LRow, look r s = none → aSet .string (.string s) (.v (.int .i64 (n : Nat))) (mRow r) = some (mRow (r ++ [(s, n)]))
 | [], _ => rfl
 | p :: l, hn => by
  simp only [mRow, List.map_cons, aSet, List.cons_append]
  rw [if_pos (show isKeyB .string (.string p.1) = true from rfl)]
  by_cases h : keyEqB (.string s) (.string p.1) = true
  ·have h' : seqb s p.1 = true := h
   simp [look, h'] at hn
  ·have h' : seqb s p.1 = false := by
    cases hh : seqb s p.1
    ·rfl
    ·exact absurd hh h
   have ih := aSet_r s n l (by simpa [look, h'] using hn)
   rw [if_neg h]; simp only [mRow] at ih; rw [ih]; rfl
@[go_sem] theorem wf_gR (n : Nat) (rows : List LRow) : wfR n (rows.map (fun r => [AV.mp (mRow r)])) = true := wfR_map _ (fun r => by simp only [wfL, AV.wf, wf_mRow, Bool.and_self]) _
@[go_sem] theorem wf_gE (n : Nat) (ends : List Bool) : wfR n (ends.map (fun b => [AV.v (.bool b)])) = true := wfR_map _ (fun r => rfl) _
def gV (rows : List LRow) (ends : List Bool) : List AV := [.slc 1 (rows.map (fun r => [.mp (mRow r)])) rows.length, .slc 1 (ends.map (fun b => [.v (.bool b)])) ends.length]

/-! ### a map that stays, in the kit's words -/
section
open Go.Maps Go.Sort Go.WideElems
theorem uStrD : Tryd.prog.underlying 9 = some .string := by kernel_rfl
def anyEl (_ : Value) : Option (DataW Unit × List MemPlace) := some (.lit (.bool true), [])
def keysL (r : LRow) : List (List UInt8) := r.map (fun p => p.1.data.toList)
theorem rd_any {e : MapEntry} {s : ByteArray} (hk : e.key = .string s) (hs : s.size ≤ maxLen) : rd Tryd.prog 9 anyEl e = some (.string s.data.toList, .lit (.bool true)) := by
 unfold WideElems.rd
 rw [hk, Go.WideMaps.keyOf_string_mk uStrD hs]; rfl
theorem mp_owns {D : Nat → Prop} {nu : Nat → Nat → Value} {o : List (Option AObj)} {w : World} {r : LRow} {x : Value} (h : RA D nu o w (.mp (mRow r)) x) (hs : ∀ p ∈ r, p.1.size ≤ maxLen) (hn : (r.map Prod.fst).Nodup) (hl : r.length ≤ 1000000) :
  ∃ b D0, x = .map (some b) ∧ b < w.heap.size ∧ w.ownsMap Tryd.prog 9 anyEl b r.length D0 ∧ (strKeys D0).Perm (keysL r) ∧ Maps.size D0 = r.length := by
 cases h with
 | mp _ b es cl h1 h2 h3 h4 h5 h6 h7 =>
 have hlen : es.size = r.length := by rw [h3, mRow_len]
 have hget : ∀ (i : Nat) (hi : i < es.toList.length), es[i]? = some es.toList[i] := fun i hi => by rw [← Array.getElem?_toList]; exact List.getElem?_eq_getElem hi
 have hk : ∀ (i : Nat) (hi : i < es.toList.length) (hi' : i < r.length), (es.toList[i]).key = Value.string r[i].1 := fun i hi hi' => by
  have hrow : (mRow r)[i]? = some [.v (.string r[i].1), .v (.int .i64 (r[i].2 : Nat))] := by rw [mRow, List.getElem?_map, List.getElem?_eq_getElem hi']; rfl
  exact (h7 i 0 _ _ _ hrow rfl (hget i hi)).plain
 have hkeys : es.toList.map (fun e => e.key) = r.map (fun p => Value.string p.1) := List.ext_getElem (by simp [hlen]) fun i k1 k2 => by
  rw [List.getElem_map, List.getElem_map]
  exact hk i (by simpa using k1) (by simpa using k2)
 have hrd : ∀ (i : Nat) (hi : i < es.toList.length) (hi' : i < r.length), rd Tryd.prog 9 anyEl es.toList[i] = some (.string r[i].1.data.toList, .lit (.bool true)) := fun i hi hi' => rd_any (hk i hi hi') (hs _ (List.getElem_mem hi'))
 refine ⟨b, _, rfl, h1.1, ⟨es, cl, h2, ⟨by unfold maxLen; omega, ⟨?_, ?_, ?_⟩, ?_⟩, by omega, rfl⟩, ?_, ?_⟩
 ·intro e he
  obtain ⟨i, hi, rfl⟩ := List.getElem_of_mem he
  exact h5 i _ (hget i hi)
 ·rw [List.Nodup, List.pairwise_iff_getElem]
  intro i j hi hj hij
  rw [List.getElem_map, List.getElem_map]
  have := h6 i j _ _ (hget i (by simpa using hi)) (hget j (by simpa using hj)) hij
  omega
 ·have e : es.toList.map (fun x => x.key) = (r.map Prod.fst).map Value.string := by rw [hkeys, List.map_map]; rfl
  rw [e, List.Nodup, List.pairwise_map]
  exact hn.imp fun hne e => hne (by cases e; rfl)
 ·intro e he
  obtain ⟨i, hi, rfl⟩ := List.getElem_of_mem he
  exact ⟨_, hrd i hi (by simpa [hlen] using hi)⟩
 ·rw [strKeys]
  refine ((WideShapes.sorted_perm _).map _).trans (List.Perm.of_eq ?_)
  rw [List.map_map]
  refine List.ext_getElem (by simp [keysL, hlen]) fun i k1 k2 => ?_
  have hi : i < es.toList.length := by simpa using k1
  simp only [keysL, List.getElem_map, Function.comp]
  rw [rg_of (hrd i hi (by simpa [hlen] using hi))]; rfl
 ·show (List.foldr DataW.insert [] _).length = _
  rw [(WideShapes.sorted_perm _).length_eq, List.length_map]; simp [hlen]
def Rise (l : List ByteArray) : Prop := l.Pairwise (fun a b => a.data.toList < b.data.toList)
theorem keys_sort {r : LRow} (h : Rise (r.map Prod.fst)) : (keysL r).mergeSort (fun x y => decide (x ≤ y)) = keysL r := by
 refine List.mergeSort_of_pairwise ?_
 rw [keysL, List.pairwise_map]
 rw [Rise, List.pairwise_map] at h
 exact h.imp fun hh => decide_eq_true (List.le_of_lt hh)
theorem rise_nd {l : List ByteArray} (h : Rise l) : l.Nodup := h.imp fun {a b} hh e => by subst e; exact absurd hh (List.lt_irrefl _)
end

/-! ### maps.Keys, slices.Sorted -/
def pZero (_ : Nat → Prop) (_ : World) (x : Value) : Prop := ∃ b, x = .pointer (some ⟨b, 0, none⟩)
def keysA (r : LRow) : AV := .fn 74 [] [.wit pZero (.vp [.mp (mRow r)])]
@[go_sem] theorem wf_keysA (n : Nat) (r : LRow) : (keysA r).wf n = true := by simp only [keysA, AV.wf, wfL, wf_mRow, Bool.and_self]
theorem keysM_c (r : LRow) : Call1 Tryd.prog 55 [.mp (mRow r)] (keysA r) := by
 refine ⟨⟨by simp only [wfL, AV.wf, wf_mRow, Bool.and_self], wf_keysA 0 r⟩, by kernel_rfl, fun D nu w vargs hro hra => ?_⟩
 obtain ⟨x, rfl, hx⟩ := ras_one hra
 obtain ⟨b, rfl⟩ : ∃ b, x = .map (some b) := by cases hx; exact ⟨_, rfl⟩
 refine ((callsIn_wide (n := 5)).1 (AnyZ.keys_in keysSLays Fence.wide 5 trivial rfl (some b) w)).mono ?_
 rintro e w' ⟨rfl, rfl⟩
 have hb : Below w.heap.size w (w.alloc (.cells #[.map (some b)] 60)) := (Below.refl _ _).alloc (Nat.le_refl _) _
 have hz : Fz D nu [] (w.alloc (.cells #[.map (some b)] 60)) w.heap.size := ⟨by simp, owned_nil _ _, hro.up _ (Nat.le_refl _)⟩
 refine ⟨_, nu, [], keysA r, rfl, mono_below hb, hro.below hb, ?_, rfl, rfl⟩
 refine .fn _ _ _ _ _ rfl rfl (fun i c x h => by simp at h) (fun i c y h1 h2 => ?_)
 cases i with
 | succ i => simp at h1
 | zero =>
  simp only [List.getElem?_cons_zero, Option.some.injEq] at h1
  simp at h2
  subst h1; subst h2
  refine .wit _ _ _ (fun _ => False) rfl (fun b h => h.elim) (fun b h => h.elim) (fun w' _ => ⟨_, rfl⟩) (.vp _ _ 0 (fun _ => .map (some b)) hz (fun j c hc => ?_) (fun j c hc => ?_) (fun j c hc => rfl))
  ·cases j with
   | succ j => simp at hc
   | zero =>
    have h := heap_new w (.cells #[.map (some b)] 60)
    exact (cell_of_block2 h 0).trans rfl
  ·cases j with
   | succ j => simp at hc
   | zero =>
    simp only [List.getElem?_cons_zero, Option.some.injEq] at hc; subst hc
    exact hx.mono (mono_below hb) (fun _ _ h => h)
theorem sortsS (m : Nat) : AnyZ.SortsIn Tryd.prog sortedSRen Fence.wide m :=
 ⟨fun blk off cap ss W hH hblk hsz => callsIn_wide.2 (AnyM.slices_Sort_string sortSLays blk off cap ss W hH hblk hsz),
  fun p cap W => callsIn_wide.2 (AnyM.slices_Sort_string_none sortSLays p cap W)⟩
theorem sortedM_c (r : LRow) (hs : ∀ p ∈ r, p.1.size ≤ maxLen) (hr : Rise (r.map Prod.fst)) (hl : r.length ≤ 1000000) : Call1 Tryd.prog 54 [keysA r] (strsA (r.map Prod.fst)) :=
 .of_strs (by kernel_rfl) (by simp only [wfL, wf_keysA, Bool.and_self]) (fun D nu w vargs hra => by
  obtain ⟨x, rfl, hx⟩ := ras_one hra
  cases hx with
  | fn _ _ _ fi ca h1 h2 h3 h4 =>
  obtain ⟨y, rfl, hy⟩ := ras_one (D := D) (nu := nu) (o := []) (w := w) ⟨h2, h4⟩
  obtain rfl : fi = #[] := Array.eq_empty_of_size_eq_zero (by simpa using h1.symm)
  cases hy with
  | wit _ _ _ S k0 k1 k2 k3 k4 =>
  obtain ⟨Bm, rfl⟩ := k3 w (fun _ _ => rfl)
  cases k4 with
  | vp _ _ _ f q1 q2 q3 q4 =>
  have hm := q2 0 _ rfl
  have hmap := q3 0 _ rfl
  obtain ⟨b, D0, e0, hb, hown, hperm, hsize⟩ := mp_owns hmap hs (rise_nd hr) hl
  rw [e0] at hm
  simp only [Nat.add_zero] at hm
  have hseq := AnyZ.keys_gives (ρ := keysSRen) { keysSLays with } Fence.wide 2 trivial rfl (by omega) Bm b r.length D0 w q1.1 hm hown
  have cS := AnyZ.sorted_in sortedSLays Fence.wide 5 trivial trivial trivial trivial rfl (by omega) (sortsS _) (enters_of Tryd.func25 (by kernel_rfl) rfl) 74 #[.pointer (some ⟨Bm, 0, none⟩)] trivial (enters_of Tryd.func74 (by kernel_rfl) rfl) _ _ (by rw [hsize]; unfold maxLen; omega) (by rw [hsize]; omega) w hseq
  refine ((callsIn_wide (n := 5)).1 cS).mono ?_
  rintro e w' ⟨v, ss, rfl, hS, hrow, hnil, hbl⟩
  have hlen : ss.length = (r.map Prod.fst).length := by rw [hS.length_eq, hperm.length_eq, keysL, List.length_map, List.length_map]
  have hk : (ss.mergeSort (fun x y => decide (x ≤ y))).map encStr = (r.map Prod.fst).map Value.string := by
   rw [Go.mergeSort_of_perm (hS.trans hperm), keys_sort hr, keysL, List.map_map, List.map_map]
   refine List.map_congr_left fun p _ => ?_
   simp [encStr]
  rw [hlen, hk] at hrow
  exact ⟨v, rfl, rdStrs_own hrow, hbl, own_block hrow⟩)

/-! ### the iterator -/
theorem mRow_at {r : LRow} {i : Nat} (h : i < r.length) : mRow (r.drop i) = [.v (.string r[i].1), .v (.int .i64 (r[i].2 : Nat))] :: mRow (r.drop (i + 1)) := by
 rw [mRow, List.drop_eq_getElem_cons h]; rfl
theorem look_i {r : LRow} (hr : Rise (r.map Prod.fst)) {i : Nat} (h : i < r.length) : look r r[i].1 = some r[i].2 := look_at (rise_nd hr) (List.getElem_mem h)
set_option maxRecDepth 100000 in
set_option maxHeartbeats 4000000 in
theorem steps_seq (rows : List LRow) (ends : List Bool) (s : Nat) (hs : s < rows.length) (hN : rows.length ≤ 1000000) (hz : ∀ p ∈ rows[s], p.1.size ≤ maxLen) (hr : Rise (rows[s].map Prod.fst)) (hl : rows[s].length ≤ 1000000) :
  SeqA Tryd.prog 53 [.vp [.vp (gV rows ends)], .vp [.v (.int .i64 (s : Nat))]] [] (mRow rows[s]) := by
 have CK := keysM_c rows[s]
 have CS := sortedM_c rows[s] hz hr hl
 have e0 : mRow rows[s] = mRow (rows[s].drop 0) := by rw [List.drop_zero]
 have eR : (rows.map (fun r => [AV.mp (mRow r)])).getD s [] = [.mp (mRow rows[s])] := by
  rw [List.getD_eq_getElem?_getD, List.getElem?_map, List.getElem?_eq_getElem hs]; rfl
 rw [show SeqA Tryd.prog 53 [.vp [.vp (gV rows ends)], .vp [.v (.int .i64 (s : Nat))]] [] (mRow rows[s]) = SeqA Tryd.prog 53 [.vp [.vp (gV rows ends)], .vp [.v (.int .i64 (s : Nat))]] [] (mRow (rows[s].drop 0)) by rw [← e0]]
 simp only [gV, strsA, List.length_map] at *
 (refine SeqA.enter Tryd.func53 rfl (by kernel_rfl) (by kernel_rfl) rfl (fun l => ?_); simp only [Tryd.ntmps53, Tryd.results53, List.length_cons, List.length_nil, Nat.reduceAdd, Nat.reduceSub, List.replicate_succ, List.replicate_zero, List.cons_append, List.nil_append])
 repeat (first | (with_reducible first | refine Stp.up ?_ | refine fun (K : AK) hK => ?_ | refine adrawG_k (by decide) ?_ | (refine hK _ ?_; clear hK K)) | simp only [go_sem, eR] | with_reducible refine wA ?_ | clear hK K)
 refine awp_drawG [] [] (by decide +kernel) (by kernel_rfl) ?_
 repeat (first | (with_reducible first | refine Stp.up ?_ | refine fun (K : AK) hK => ?_ | refine adrawG_k (by decide) ?_ | (refine hK _ ?_; clear hK K)) | simp only [go_sem, eR] | with_reducible refine wA ?_ | clear hK K)
 refine ACallS.one CK ?_
 repeat (first | (with_reducible first | refine Stp.up ?_ | refine fun (K : AK) hK => ?_ | refine adrawG_k (by decide) ?_ | (refine hK _ ?_; clear hK K)) | simp only [go_sem, eR] | with_reducible refine wA ?_ | clear hK K)
 refine ACallS.one CS ?_
 repeat (first | (with_reducible first | refine Stp.up ?_ | refine fun (K : AK) hK => ?_ | refine adrawG_k (by decide) ?_ | (refine hK _ ?_; clear hK K)) | simp only [go_sem, eR] | with_reducible refine wA ?_ | clear hK K)
 refine awp_loopY (ι := Nat) 17 (fun i => [(16, .v (.int .i64 i)), (5, .undef)]) (fun i => []) (fun i => .run l (mRow (rows[s].drop i))) (fun i => rows[s].length - i) (fun i => i ≤ rows[s].length) 0 (by omega) ?_ ?_
 ·(refine wk_mk ?_ ?_ ?_ <;> simp only [frm, List.foldl_cons, List.foldl_nil, List.replicate_succ, List.replicate_zero, WkT, WkO, AV.v.injEq, Value.int.injEq, Value.bool.injEq, Value.string.injEq, AV.vec.injEq, AV.ptr.injEq, true_or, or_true, false_or, or_false, AObj.mk.injEq, forall_eq_apply_imp_iff, forall_eq, forall_eq', go_sem])
  rfl
 ·rintro i hi K hK
  repeat (first | (with_reducible first | refine Stp.up ?_ | refine fun (K : AK) hK => ?_ | refine adrawG_k (by decide) ?_ | (refine hK _ ?_; clear hK K)) | simp only [go_sem] | with_reducible refine wA ?_ | clear hK K)
  refine AIf.part (fun h => ?_) (fun h => ?_)
  ·have hlt : i < rows[s].length := by (try simp only [bne_iff_ne, ne_eq, bne_eq_false_iff_eq, beq_iff_eq, beq_eq_false_iff_ne, decide_eq_true_eq, decide_eq_false_iff_not, Bool.not_eq_eq_eq_not, Int.natCast_inj, Int.ofNat_lt, Int.ofNat_le] at h); omega
   have eW := wrap_succ (k := i) (by omega)
   have eG : (List.map encS (List.map Prod.fst rows[s])).getD i [] = [.v (.string rows[s][i].1)] := by
    rw [List.getD_eq_getElem?_getD, List.getElem?_map, List.getElem?_map, List.getElem?_eq_getElem hlt]; rfl
   have eY := mRow_at hlt
   have eA := aGet_r rows[s][i].1 rows[s]
   rw [look_i hr hlt] at eA
   simp only [Option.map_some] at eA
   repeat (first | (with_reducible first | refine Stp.up ?_ | refine fun (K : AK) hK => ?_ | refine adrawG_k (by decide) ?_ | (refine hK _ ?_; clear hK K)) | simp only [go_sem, eG, h] | with_reducible refine wA ?_ | clear hK K)
   (refine awp_drawY 11 (by decide +kernel) (by kernel_rfl) ?_; simp only [List.drop_succ_cons, List.drop_zero, List.take_succ_cons, List.take_zero])
   repeat' (first | (with_reducible first | refine Stp.up ?_ | refine fun (K : AK) hK => ?_ | refine adrawG_k (by decide) ?_ | (refine hK _ ?_; clear hK K)) | simp only [go_sem, eR, eA, eY, eW, Go.undef] | with_reducible refine wA ?_ | clear hK K | (with_reducible refine ACallV.one (by assumption) ?_) | (with_reducible refine ACallS.one (by assumption) ?_) | (refine AIf.part (fun hb => ?_) (fun hb => ?_) <;> simp only [hb, go_sem, eR, eA, eY, eW, Go.undef]) | (refine AIf.part (fun hb => ?_) (fun hb => ?_)) | (with_reducible refine ABoth.mk ?_ ?_))
   ·exact LNext.mk (i + 1) (by omega) (by omega) (by (refine wk_mk ?_ ?_ ?_ <;> simp only [frm, List.foldl_cons, List.foldl_nil, List.replicate_succ, List.replicate_zero, WkT, WkO, AV.v.injEq, Value.int.injEq, Value.bool.injEq, Value.string.injEq, AV.vec.injEq, AV.ptr.injEq, true_or, or_true, false_or, or_false, AObj.mk.injEq, forall_eq_apply_imp_iff, forall_eq, forall_eq', go_sem]))
   ·exact .inr trivial
  ·have e1 : rows[s].drop i = [] := List.drop_eq_nil_of_le (by (try simp only [bne_iff_ne, ne_eq, bne_eq_false_iff_eq, beq_iff_eq, beq_eq_false_iff_ne, decide_eq_true_eq, decide_eq_false_iff_not, Bool.not_eq_eq_eq_not, Int.natCast_inj, Int.ofNat_lt, Int.ofNat_le] at h); omega)
   simp only [e1, mRow, List.map_nil]
   repeat (first | (with_reducible first | refine Stp.up ?_ | refine fun (K : AK) hK => ?_ | refine adrawG_k (by decide) ?_ | (refine hK _ ?_; clear hK K)) | simp only [go_sem] | with_reducible refine wA ?_ | clear hK K)
   exact .inl trivial
set_option maxRecDepth 100000 in
theorem steps_c (rows : List LRow) (ends : List Bool) (s : Nat) : Call1 Tryd.prog 35 [.vp (gV rows ends), .v (.int .i64 (s : Nat))] (.fn 53 [] [.vp [.vp (gV rows ends)], .vp [.v (.int .i64 (s : Nat))]]) := by
 simp only [gV] at *
 (refine Call1.enter Tryd.func35 rfl (by kernel_rfl) (by kernel_rfl) rfl (by first | rfl | (simp only [go_sem, Bool.and_self, Bool.and_true, Bool.true_and])) (by first | rfl | (simp only [go_sem, Bool.and_self, Bool.and_true, Bool.true_and])) ?_; simp only [Tryd.ntmps35, Tryd.results35, List.length_cons, List.length_nil, Nat.reduceAdd, Nat.reduceSub, List.replicate_succ, List.replicate_zero, List.cons_append, List.nil_append])
 repeat' (first | (with_reducible first | refine Stp.up ?_ | refine fun (K : AK) hK => ?_ | (refine hK _ ?_; clear hK K)) | simp only [go_sem] | clear hK K | (with_reducible refine ACallV.one (by assumption) ?_) | (with_reducible refine ACallS.one (by assumption) ?_) | (refine AIf.part (fun hb => ?_) (fun hb => ?_) <;> simp only [hb, go_sem]) | (refine AIf.part (fun hb => ?_) (fun hb => ?_)) | (with_reducible refine ABoth.mk ?_ ?_))
 (refine AFz.of 40 rfl ?_; simp only [go_sem])
end Go.Proofs.YtfflpdekojlnmaaDoor
