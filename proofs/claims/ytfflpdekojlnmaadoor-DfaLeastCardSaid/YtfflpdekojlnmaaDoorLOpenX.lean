/- How the data of a row lie in memory: what the row's reading says, in words of our readings. -/
import Derived.Test.YtfflpdekojlnmaaDoorLBase2
import Derived.ChangeArms
import Derived.Deep.Slices
import Derived.KernelRfl
import Derived.SizedLaws
import Derived.Test.YtfflpdekojlnmaaDoorProg
import Derived.Test.YtfflpdekojlnmaaDoorRows
import Derived.Test.YtfflpdekojlnmaaDoorLAbsN
import Derived.Test.YtfflpdekojlnmaaDoorLEnc
import Derived.WalkKit
import Derived.ProofKit
import Derived.OpenShut
set_option linter.unusedSimpArgs false
set_option linter.unusedVariables false
namespace Go.Proofs.YtfflpdekojlnmaaDoor
open Go.RowKit Go.ChangeShapes Go.Deep

def tStr (P : Program) (t : TypeId) : Option (List (TypeId × Nat × Nat)) := match P.underlying t with
 | some (.struct fs) => some (fs.toList.map fun f => (f.type, f.offset, P.cellsOf f.type))
 | _ => none

section
variable {H : Type} {enc : TypeId × Value → H} {P : Program} {w : World}

def Td (enc : TypeId × Value → H) (P : Program) (w : World) (n : Nat) (t : TypeId) (cs : List Value) : Prop := ∃ y, DataW.trod enc P w 0 (fun _ => true) true n t cs = some y ∧ ∀ k ∈ y.1.weights P t, k ≤ reachBytes
theorem weights_all {t : TypeId} : ∀ {l : List (DataW H)} {d : DataW H}, d ∈ l → ∀ k ∈ d.weights P t, k ∈ DataW.weightsAll P t l
 | y :: l, d, hd, k, hk => by
  rw [DataW.weightsAll, List.mem_append]
  rcases List.mem_cons.1 hd with rfl | hd
  ·exact .inl hk
  ·exact .inr (weights_all hd k hk)

theorem td_int {n : Nat} {t : TypeId} {cs : List Value} (ht : P.underlying t = some (.int .i64)) (h : Td enc P w n t cs) : ∃ k, cs = [.int .i64 k] ∧ (Lit.int .i64 k).wf = true := by
 obtain ⟨y, h, _⟩ := h
 obtain ⟨k, rfl, _, hk⟩ := DataW.trod_int ht h
 exact ⟨k, rfl, hk⟩
theorem td_str {n : Nat} {t : TypeId} {cs : List Value} (ht : P.underlying t = some .string) (h : Td enc P w n t cs) : ∃ s, cs = [.string s] ∧ okT s := by
 obtain ⟨y, h, hy⟩ := h
 obtain ⟨s, rfl, rfl, hs⟩ := DataW.trod_string ht h
 refine ⟨s, rfl, ?_⟩
 have := hy s.data.toList.length (by rw [DataW.weights]; exact List.mem_singleton.2 rfl)
 unfold reachBytes at this
 unfold okT
 have e : s.size = s.data.toList.length := rfl
 omega
theorem td_struct {n : Nat} {t : TypeId} {cs : List Value} {l : List (TypeId × Nat × Nat)} (hs : tStr P t = some l) (h : Td enc P w n t cs) :
  ∃ m, n = m + 1 ∧ cs.length = P.cellsOf t ∧ ∀ (i : Nat) T off sz, l[i]? = some (T, off, sz) → Td enc P w m T ((cs.drop off).take sz) := by
 obtain ⟨y, h, hy⟩ := h
 unfold tStr at hs
 split at hs
 ·rename_i fs ht
  cases hs
  obtain ⟨xs, m, rfl, rfl, h1, h2, h3⟩ := DataW.trod_struct ht h
  refine ⟨m, rfl, h1, fun i T off sz hi => ?_⟩
  rw [List.getElem?_map] at hi
  cases hf : fs[i]? with
  | none => simp [hf] at hi
  | some f =>
   simp [hf] at hi
   obtain ⟨rfl, rfl, rfl⟩ := hi
   have := h3 i f hf
   have hlt : i < xs.length := by rw [h2]; exact (Array.getElem?_eq_some_iff.1 hf).1
   rw [List.getElem?_eq_getElem hlt] at this
   refine ⟨_, this, fun k hk => hy k ?_⟩
   simp only [DataW.weights, ht]
   exact DataW.weights_mem_each (j := i) (t := f.type) (d := xs[i].1) (by simp [hf]) (by simp [hlt]) k hk
 ·cases hs
theorem td_row {α : Type} [Inhabited α] {n : Nat} {t e : TypeId} {z : Nat} {v : Value} {rd : α → List Value → Prop} {okx : α → Prop} (ht : P.underlying t = some (.slice e)) (hz : P.cellsOf e = z) (hz0 : 0 < z) (hby : 0 < P.bytesOf e)
  (h : Td enc P w n t [v]) (hrd : ∀ m cs, n = m + 1 → Td enc P w m e cs → ∃ x, rd x cs ∧ okx x) : ∃ xs : List α, RdSl w z rd xs v ∧ (∀ x, x ∈ xs → okx x) ∧ xs.length ≤ 140737488355328 := by
 obtain ⟨y, h, hy⟩ := h
 rcases DataW.trod_slice ht h with ⟨h0, _⟩ | ⟨a, len, cap, elems, rest, m, rfl, h0, rfl, hb, hl, hm, hlen, hel, hsp, _⟩
 ·cases h0
  exact ⟨[], .inl ⟨.inl rfl, rfl⟩, fun x hx => (by cases hx), by simp⟩
 ·cases h0
  rw [hz] at hel hsp
  obtain ⟨hrl, hre⟩ := hsp rfl
  have hw := hy ((elems.length + rest.length) * P.bytesOf e) (by simp [DataW.weights, ht])
  have hln : len ≤ 140737488355328 := by
   unfold reachBytes at hw
   have : elems.length + rest.length ≤ (elems.length + rest.length) * P.bytesOf e := Nat.le_mul_of_pos_right _ hby
   omega
  by_cases hc : cap = 0
  ·subst hc
   obtain rfl : len = 0 := by omega
   exact ⟨[], .inl ⟨.inr ⟨a, rfl⟩, rfl⟩, fun x hx => (by cases hx), by simp⟩
  ·have hspot : a.spot = none := by
    have k : ∃ u, ((w.cells? 0 (a.add (0 * z)) z).bind (DataW.trod enc P w 0 (fun _ => true) true m e)) = some u := by
     rcases Nat.eq_zero_or_pos len with q | q
     ·subst q
      have := hre 0 (by omega)
      rw [List.getElem?_eq_getElem (by omega)] at this
      exact ⟨_, this⟩
     ·have := hel 0 q
      rw [List.getElem?_eq_getElem (by omega)] at this
      exact ⟨_, this⟩
    obtain ⟨u, hu⟩ := k
    obtain ⟨cs, h1, _⟩ := Option.bind_eq_some_iff.1 hu
    obtain ⟨_, h2, h3⟩ := World.cells?_some h1
    have h4 := h3 0 hz0
    rw [List.getElem?_eq_getElem (by omega)] at h4
    have := World.cell?_spot h4
    simpa [Addr.add] using this
   obtain ⟨b, o, sp⟩ := a
   cases hspot
   have hx : ∀ i, i < len → ∃ x : α, okx x ∧ ∃ cs, rd x cs ∧ cellsAt w b (o + i * z) cs := fun i hi => by
    have h1 := hel i hi
    rw [List.getElem?_eq_getElem (by omega)] at h1
    obtain ⟨cs, h2, h3⟩ := Option.bind_eq_some_iff.1 h1
    obtain ⟨x, q1, q2⟩ := hrd m cs rfl ⟨_, h3, fun k hk => hy k (by
     simp only [DataW.weights, ht]
     refine List.mem_cons_of_mem _ (List.mem_append_left _ (weights_all (List.mem_map_of_mem (List.getElem_mem (l := elems) (n := i) (by omega))) k hk)))⟩
    obtain ⟨_, h4, h5⟩ := World.cells?_some h2
    refine ⟨x, q2, cs, q1, ?_⟩
    have key : ∀ (l : List Value) (off : Nat), (∀ (j : Nat) v, l[j]? = some v → w.cell? ⟨b, off + j, none⟩ = some v) → cellsAt w b off l := by
     intro l
     induction l with
     | nil => exact fun _ _ => trivial
     | cons y l ih => exact fun off h => ⟨by simpa using h 0 y rfl, ih (off + 1) (fun j v hj => by rw [show off + 1 + j = off + (j + 1) by omega]; exact h (j + 1) v (by simpa using hj))⟩
    refine key cs _ (fun j v hj => ?_)
    have hjl := (List.getElem?_eq_some_iff.1 hj).1
    have h6 := h5 j (by omega)
    rw [hj, Addr.add_lit, Addr.add_lit] at h6
    exact h6
   obtain ⟨f, hf⟩ := choose_lt hx
   refine ⟨(List.range len).map f, .inr ⟨b, o, cap, by simp, by simpa using hl, hm, fun i x hi => ?_⟩, fun x hx => ?_, by simp; omega⟩
   ·rw [List.getElem?_map] at hi
    have hil : i < len := by
     rcases Nat.lt_or_ge i len with q | q
     ·exact q
     ·rw [List.getElem?_eq_none (by simpa using q)] at hi; cases hi
    rw [List.getElem?_range hil] at hi
    cases hi
    exact (hf i hil).2
   ·obtain ⟨i, hi, rfl⟩ := List.mem_map.1 hx
    exact (hf i (List.mem_range.1 hi)).1
end

/-! ### the data of this program -/
section
variable {H : Type} {enc : TypeId × Value → H} {w : World}
instance : Inhabited Ex := ⟨.mk 0 ⟨#[]⟩ []⟩
instance : Inhabited Opd := ⟨⟨0, ⟨#[]⟩, ⟨#[]⟩, ⟨0, 0, ⟨#[]⟩⟩⟩⟩
instance : Inhabited Cnd := ⟨⟨0, default, default⟩⟩
instance : Inhabited Pat := ⟨⟨⟨#[]⟩, ⟨#[]⟩, false, ⟨#[]⟩, ⟨#[]⟩, default⟩⟩
theorem uStr : Tryd.prog.underlying 9 = some .string := by kernel_rfl

theorem uEK : Tryd.prog.underlying 22 = some (.int .i64) := by kernel_rfl

theorem sEx : tStr Tryd.prog 25 = some [(22, 0, 1), (9, 1, 1), (23, 2, 1)] := by kernel_rfl
theorem cEx : Tryd.prog.cellsOf 25 = 3 := by kernel_rfl

theorem uExs : Tryd.prog.underlying 23 = some (.slice 25) := by kernel_rfl

theorem bEx : 0 < Tryd.prog.bytesOf 25 := of_decide_eq_true (by kernel_rfl)

theorem td_ex : ∀ (n : Nat) {cs : List Value}, Td enc Tryd.prog w n 25 cs → ∃ x : Ex, RdEx w x cs ∧ x.ok := by
 intro n
 induction n using Nat.strongRecOn with
 | _ n ih =>
  intro cs h
  obtain ⟨m, rfl, hl, hf⟩ := td_struct sEx h
  rw [cEx] at hl
  obtain ⟨a, b, c, rfl⟩ : ∃ a b c, cs = [a, b, c] := by
   rcases cs with _ | ⟨a, _ | ⟨b, _ | ⟨c, _ | ⟨d, cs⟩⟩⟩⟩
   ·cases hl
   ·cases hl
   ·cases hl
   ·exact ⟨a, b, c, rfl⟩
   ·simp at hl
  obtain ⟨k, e0, _⟩ := td_int uEK (hf 0 _ _ _ rfl)
  obtain ⟨s, e1, h1⟩ := td_str uStr (hf 1 _ _ _ rfl)
  obtain ⟨xs, h2, h3, _⟩ := td_row uExs cEx (by omega) bEx (hf 2 _ _ _ rfl) (rd := RdEx w) (okx := Ex.ok) (fun m' cs' hm hx => ih m' (by omega) hx)
  cases e0; cases e1
  exact ⟨.mk k s xs, by rw [RdEx]; exact ⟨_, rfl, rdExs_iff.2 h2⟩, by rw [Ex.ok]; exact ⟨h1, exsOk_iff.2 h3⟩⟩

end
end Go.Proofs.YtfflpdekojlnmaaDoor

namespace Go.Proofs.YtfflpdekojlnmaaDoor
open Go.ChangeShapes Go.WideShapes Go.ChangeAt Go.RowKit

theorem Call1.to_ret {P : Program} {f : FuncId} {args : List AV} {v : Value} (h : Call1 P f args (.v v)) {w : World} {vargs : Array Value} (hr : RAs (fun _ => True) (fun _ _ => Go.undef) [] w args vargs) (hG : GlobOk (fun _ => True) (fun _ _ => Go.undef) [] w := by exact fun g T cs hg => by cases hg) :
  Calls P f vargs w (Ret w v) := by
 refine (h.2.2 _ _ w vargs (RO.nil _ _ _ (fun _ _ => trivial) hG) hr).mono fun e w' hf => ?_
 obtain ⟨x, nu', o', r, rfl, hm, _, hx, rfl, rfl⟩ := hf
 have e1 := hx.v_eq
 subst e1
 exact ⟨rfl, hm.os, hm.tape, hm.output, hm.size, fun b hb => (hm.keep b hb (owned_nil _ _)).1⟩

section
variable {H : Type} {enc : TypeId × Value → H} {w : World}

end
end Go.Proofs.YtfflpdekojlnmaaDoor

namespace Go.Proofs.YtfflpdekojlnmaaDoor
open Go.ChangeShapes Go.WideShapes Go.ChangeAt Go.RowKit

section
variable {H : Type} {enc : TypeId × Value → H} {w : World}
theorem trod_ex {v : Value} {d : DataW H} {ps : List MemPlace} (h : DataW.Trod enc Tryd.prog w 0 (fun _ => true) true 25 v d ps) (hw : ∀ k ∈ d.weights Tryd.prog 25, k ≤ reachBytes) :
  ∃ (x : Ex) (cx : List Value), v = .agg cx.toArray ∧ RdEx w x cx ∧ x.ok := by
 obtain ⟨n, h⟩ := h
 have ht : Td enc Tryd.prog w n 25 v.cells.toList := ⟨_, h, hw⟩
 obtain ⟨m, _, hl, _⟩ := td_struct sEx ht
 rw [cEx] at hl
 obtain ⟨x, h1, h2⟩ := td_ex n ht
 cases v with
 | agg cs => exact ⟨x, cs.toList, by simp, h1, h2⟩
 | _ => simp [Value.cells] at hl
theorem exArg_ra {D : Nat → Prop} {nu : Nat → Nat → Value} (hD : ∀ b, b < w.heap.size → D b) {x : Ex} {cx : List Value} (h : RdEx w x cx) : RA D nu [] w (.agg (encE x)) (.agg cx.toArray) := by
 obtain ⟨h1, h2⟩ := ex_ra (nu := nu) hD x cx h
 exact .agg _ _ (by simpa using h1.1) (fun i c y hc hy => h1.2 i c y hc (by simpa using hy)) (fun i y hy => h2 y (List.mem_of_getElem? (by simpa using hy)))
end
end Go.Proofs.YtfflpdekojlnmaaDoor
