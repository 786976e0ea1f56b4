/- Expressions, operands, conditions, patterns, queries told as data of the abstract walk; what that says in words of the older readings. -/
import Derived.Test.YtfflpdekojlnmaaGreatDoorTAbsZ
import Derived.Test.YtfflpdekojlnmaaGreatDoorTBase2
import Derived.ChangeArms
import Derived.Deep.Slices
import Derived.KernelRfl
import Derived.SizedLaws
import Derived.Test.YtfflpdekojlnmaaGreatDoorProg
import Derived.Test.YtfflpdekojlnmaaGreatDoorRows
import Derived.Test.YtfflpdekojlnmaaGreatDoorTAbsN
import Derived.WalkKit
import Derived.ProofKit
import Derived.OpenShut
set_option linter.unusedSimpArgs false
set_option linter.unusedVariables false
namespace Go.Proofs.YtfflpdekojlnmaaGreatDoor
open Go.RowKit

def encS (s : ByteArray) : List AV := [.v (.string s)]
def encI (n : Int) : List AV := [.v (.int .i64 n)]
def encO (x : Opd) : List AV := [.v (.int .i64 x.kind), .v (.string x.name), .v (.string x.key), .v (.int .i64 x.val.kind), .v (.int .i64 x.val.num), .v (.string x.val.text)]
def encV (x : Val) : List AV := [.v (.int .i64 x.kind), .v (.int .i64 x.num), .v (.string x.text)]
def encC (x : Cnd) : List AV := [.v (.int .i64 x.op), .v (.int .i64 x.left.kind), .v (.string x.left.name), .v (.string x.left.key), .v (.int .i64 x.left.val.kind), .v (.int .i64 x.left.val.num), .v (.string x.left.val.text),
 .v (.int .i64 x.right.kind), .v (.string x.right.name), .v (.string x.right.key), .v (.int .i64 x.right.val.kind), .v (.int .i64 x.right.val.num), .v (.string x.right.val.text)]
mutual
def encE : Ex → List AV
 | .mk k s l => [.v (.int .i64 k), .v (.string s), .slc 3 (encEs l) l.length]
def encEs : List Ex → List (List AV)
 | [] => []
 | x :: xs => encE x :: encEs xs
end
theorem encEs_eq : ∀ l : List Ex, encEs l = l.map encE
 | [] => rfl
 | x :: xs => by rw [encEs, encEs_eq xs, List.map_cons]
theorem encE_eq (x : Ex) : encE x = [.v (.int .i64 x.kind), .v (.string x.label), .slc 3 (x.kids.map encE) x.kids.length] := by
 obtain ⟨k, s, l⟩ := x; rw [encE, encEs_eq]; rfl
def encP (p : Pat) : List AV := [.v (.string p.frm), .v (.string p.to), .v (.bool p.path), .v (.string p.label), .v (.string p.name), .v (.int .i64 p.expr.kind), .v (.string p.expr.label), .slc 3 (p.expr.kids.map encE) p.expr.kids.length]
def encQ (q : Qry) : List AV := [.slc 8 (q.pats.map encP) q.pats.length, .slc 13 (q.conds.map encC) q.conds.length, .slc 6 (q.ret.map encO) q.ret.length, .v (.int .i64 q.range), .v (.int .i64 q.slide)]
def strsA (l : List ByteArray) : AV := .slc 1 (l.map encS) l.length
def intsA (l : List Int) : AV := .slc 1 (l.map encI) l.length

theorem wf_encS (n : Nat) (l : List ByteArray) : wfR n (l.map encS) = true := wfR_map _ (fun _ => rfl) l
theorem wf_encI (n : Nat) (l : List Int) : wfR n (l.map encI) = true := wfR_map _ (fun _ => rfl) l
theorem wf_encO (n : Nat) (l : List Opd) : wfR n (l.map encO) = true := wfR_map _ (fun _ => rfl) l
theorem wf_encC (n : Nat) (l : List Cnd) : wfR n (l.map encC) = true := wfR_map _ (fun _ => rfl) l
theorem wf_encE1 (n : Nat) (x : Ex) : wfL n (encE x) = true := by
 induction x using Ex.ind with
 | h k s l ih =>
  rw [encE, encEs_eq]
  simp only [wfL, AV.wf, Bool.and_true, Bool.true_and]
  exact wfR_of (fun r hr => by obtain ⟨x, hx, rfl⟩ := List.mem_map.1 hr; exact ih x hx)
theorem wf_encE (n : Nat) (l : List Ex) : wfR n (l.map encE) = true := wfR_map _ (wf_encE1 n) l
theorem wf_encP1 (n : Nat) (p : Pat) : wfL n (encP p) = true := by simp only [encP, wfL, AV.wf, wf_encE, Bool.and_true]
theorem wf_encP (n : Nat) (l : List Pat) : wfR n (l.map encP) = true := wfR_map _ (wf_encP1 n) l
theorem wf_encQ (n : Nat) (q : Qry) : wfL n (encQ q) = true := by simp only [encQ, wfL, AV.wf, wf_encP, wf_encC, wf_encO, Bool.and_true]
attribute [go_sem] strsA intsA encS encI encO encV encC encP encQ wf_encS wf_encI wf_encO wf_encC wf_encE1 wf_encE wf_encP1 wf_encP wf_encQ
@[go_sem] theorem getD_map {α β : Type} (f : α → β) (l : List α) (k : Nat) (d : β) (h : k < l.length) : (l.map f).getD k d = f l[k] := by
 simp [List.getD, h]

section
variable {D : Nat → Prop} {nu : Nat → Nat → Value} {o : List (Option AObj)} {w : World} {P : Program}

theorem cellsAt_of {b : Nat} : ∀ {cs : List Value} {off : Nat}, (∀ (j : Nat) v, cs[j]? = some v → w.cell? ⟨b, off + j, none⟩ = some v) → cellsAt w b off cs
 | [], _, _ => trivial
 | y :: cs, off, h => ⟨by simpa using h 0 y rfl, cellsAt_of (off := off + 1) (fun j v hj => by rw [show off + 1 + j = off + (j + 1) by omega]; exact h (j + 1) v (by simpa using hj))⟩

def RLs (D : Nat → Prop) (nu : Nat → Nat → Value) (o : List (Option AObj)) (w : World) (cs : List AV) (xs : List Value) : Prop := cs.length = xs.length ∧ ∀ (j : Nat) c x, cs[j]? = some c → xs[j]? = some x → RA D nu o w c x

theorem RA.rdSl {α : Type} {z : Nat} {enc : α → List AV} {rd : α → List Value → Prop} {xs : List α} {v : Value} (h : RA D nu o w (.slc z (xs.map enc) xs.length) v) (hrd : ∀ x, x ∈ xs → ∀ cs : List Value, RLs D nu o w (enc x) cs → rd x cs) : RdSl w z rd xs v := by
 generalize hn : xs.length = n at h
 generalize hr : xs.map enc = rows at h
 cases h with
 | slcNil =>
  exact .inl ⟨.inl rfl, List.length_eq_zero_iff.1 hn⟩
 | slcOdd _ a =>
  exact .inl ⟨.inr ⟨a, rfl⟩, List.length_eq_zero_iff.1 hn⟩
 | slc _ _ _ b off cap f h1 h2 h3 h4 h5 h6 h7 h8 =>
  subst hr
  simp only [List.length_map] at h2
  refine .inr ⟨b, off, cap, by rw [hn], h2, h3, fun i x hx => ?_⟩
  have hi : (xs.map enc)[i]? = some (enc x) := by rw [List.getElem?_map, hx]; rfl
  refine ⟨(List.range (enc x).length).map (f i), hrd x (List.mem_of_getElem? hx) _ ⟨by simp, fun j c y hc hy => ?_⟩, cellsAt_of (fun j y hy => ?_)⟩
  ·have hj := (List.getElem?_eq_some_iff.1 hc).1
   rw [List.getElem?_map, List.getElem?_range hj] at hy
   cases hy
   exact h7 i j _ c hi hc
  ·rw [List.getElem?_map] at hy
   have hj : j < (enc x).length := by
    rcases Nat.lt_or_ge j (enc x).length with q | q
    ·exact q
    ·rw [List.getElem?_eq_none (by simpa using q)] at hy; cases hy
   rw [List.getElem?_range hj] at hy
   cases hy
   exact h6 i j _ _ hi (List.getElem?_eq_getElem hj)

theorem rls_vals {vs cs : List Value} (h : RLs D nu o w (vs.map AV.v) cs) : cs = vs := by
 apply List.ext_getElem?
 intro i
 have hl := h.1
 simp only [List.length_map] at hl
 rcases Nat.lt_or_ge i vs.length with q | q
 ·have e1 : (vs.map AV.v)[i]? = some (.v vs[i]) := by simp [q]
  have e2 : cs[i]? = some cs[i] := List.getElem?_eq_getElem (by omega)
  have := (h.2 i _ _ e1 e2).v_eq
  rw [e2, this, List.getElem?_eq_getElem q]
 ·rw [List.getElem?_eq_none q, List.getElem?_eq_none (by omega)]

theorem rls_ex : ∀ (x : Ex) (cs : List Value), RLs D nu o w (encE x) cs → RdEx w x cs := by
 intro x
 induction x using Ex.ind with
 | h k s l ih =>
  intro cs h
  rw [encE, encEs_eq] at h
  obtain ⟨hl, hr⟩ := h
  match cs, hl with
  | [a, b, c], _ =>
   have h0 := (hr 0 _ a rfl rfl).v_eq
   have h1 := (hr 1 _ b rfl rfl).v_eq
   have h2 := hr 2 _ c rfl rfl
   rw [RdEx]
   exact ⟨c, by rw [h0, h1], rdExs_iff.2 (RA.rdSl h2 (fun y hy cs' hc => ih y hy cs' hc))⟩

theorem ra_agg {cs : List AV} {v : Value} (h : RA D nu o w (.agg cs) v) : ∃ xs : List Value, v = .agg xs.toArray ∧ RLs D nu o w cs xs := by
 cases h with
 | agg _ xs h1 h2 h3 => exact ⟨xs.toList, by simp, by simpa using h1, fun j c x q1 q2 => h2 j c x q1 (by simpa using q2)⟩

/-! ### the other way, where nothing is owned -/
theorem RA.of_rdSl1 {α : Type} {z : Nat} (hz : 0 < z) {enc : α → List AV} {rd : α → List Value → Prop} {xs : List α} {v : Value} (hD : ∀ b off n c, v = .slice (some ⟨b, off, none⟩) n c → b < w.heap.size → D b) (h : RdSl w z rd xs v) (hlen : ∀ x, (enc x).length = z)
  (hrd : ∀ x, x ∈ xs → ∀ cs : List Value, rd x cs → RLs D nu [] w (enc x) cs ∧ ∀ y ∈ cs, y.oneCell' = true) : RA D nu [] w (.slc z (xs.map enc) xs.length) v := by
 rcases h with ⟨rfl | ⟨a, rfl⟩, rfl⟩ | ⟨b, off, cap, rfl, h1, h2, h3⟩
 ·exact .slcNil z
 ·exact .slcOdd z a
 ·have hex : ∀ i : Nat, ∃ cs : List Value, ∀ x, xs[i]? = some x → rd x cs ∧ cellsAt w b (off + i * z) cs := fun i => by
   cases hx : xs[i]? with
   | none => exact ⟨[], fun x hx => by cases hx⟩
   | some x =>
    obtain ⟨cs, q⟩ := h3 i x hx
    exact ⟨cs, fun y hy => by cases hy; exact q⟩
  let g : Nat → List Value := fun i => Classical.choose (hex i)
  have hg : ∀ i x, xs[i]? = some x → rd x (g i) ∧ cellsAt w b (off + i * z) (g i) := fun i x hx => Classical.choose_spec (hex i) x hx
  have key : ∀ (i j : Nat) row c, (xs.map enc)[i]? = some row → row[j]? = some c → ∃ y, (g i)[j]? = some y ∧ w.cell? ⟨b, off + i * z + j, none⟩ = some y ∧ RA D nu [] w c y ∧ y.oneCell' = true := by
   intro i j row c hi hj
   rw [List.getElem?_map] at hi
   cases hx : xs[i]? with
   | none => rw [hx] at hi; cases hi
   | some x =>
    rw [hx] at hi
    cases hi
    obtain ⟨q1, q2⟩ := hg i x hx
    obtain ⟨q3, q4⟩ := hrd x (List.mem_of_getElem? hx) _ q1
    have hjl : j < (g i).length := by rw [← q3.1]; exact (List.getElem?_eq_some_iff.1 hj).1
    have e := List.getElem?_eq_getElem hjl
    exact ⟨_, e, cellsAt_get q2 j _ e, q3.2 j c _ hj e, q4 _ (List.mem_of_getElem? e)⟩
  refine .slc z _ _ b off cap (fun i j => (g i).getD j Go.undef) (by simp) (by simpa using h1) h2 (fun hne => ?_) (fun i row hi => ?_) (fun i j row c hi hj => ?_) (fun i j row c hi hj => ?_) (fun i j row c hi hj => ?_)
  ·obtain ⟨x, xs', rfl⟩ : ∃ x xs', xs = x :: xs' := by
    cases xs with
    | nil => exact absurd rfl hne
    | cons x xs' => exact ⟨x, xs', rfl⟩
   obtain ⟨c, hc⟩ : ∃ c, (enc x)[0]? = some c := ⟨_, List.getElem?_eq_getElem (by rw [hlen x]; exact hz)⟩
   obtain ⟨y, _, q, _⟩ := key 0 0 (enc x) c (by simp) hc
   have hlt := lt_of_cell q
   exact ⟨hlt, owned_nil _ _, hD _ _ _ _ rfl hlt⟩
  ·rw [List.getElem?_map] at hi
   cases hx : xs[i]? with
   | none => rw [hx] at hi; cases hi
   | some x => rw [hx] at hi; cases hi; exact hlen x
  ·obtain ⟨y, q1, q2, _⟩ := key i j row c hi hj
   rw [q2, getD_some q1]
  ·obtain ⟨y, q1, _, q3, _⟩ := key i j row c hi hj
   rw [getD_some q1]; exact q3
  ·obtain ⟨y, q1, _, _, q4⟩ := key i j row c hi hj
   rw [getD_some q1]; exact q4

theorem RA.of_rdSl (hD : ∀ b, b < w.heap.size → D b) {α : Type} {z : Nat} (hz : 0 < z) {enc : α → List AV} {rd : α → List Value → Prop} {xs : List α} {v : Value} (h : RdSl w z rd xs v) (hlen : ∀ x, (enc x).length = z)
  (hrd : ∀ x, x ∈ xs → ∀ cs : List Value, rd x cs → RLs D nu [] w (enc x) cs ∧ ∀ y ∈ cs, y.oneCell' = true) : RA D nu [] w (.slc z (xs.map enc) xs.length) v := RA.of_rdSl1 hz (fun b _ _ _ _ hb => hD b hb) h hlen hrd

theorem rls_of_vals (vs : List Value) : RLs D nu o w (vs.map AV.v) vs := ⟨by simp, fun j c x h1 h2 => by
 rw [List.getElem?_map, h2] at h1; cases h1; exact .v x⟩

theorem rdSl_one {α : Type} {z : Nat} {rd : α → List Value → Prop} {xs : List α} {v : Value} (h : RdSl w z rd xs v) : v.oneCell' = true := by
 rcases h with ⟨rfl | ⟨a, rfl⟩, _⟩ | ⟨b, off, cap, rfl, _⟩ <;> rfl
theorem strs_ra (hD : ∀ b, b < w.heap.size → D b) {l : List ByteArray} {v : Value} (h : RdStrs w l v) : RA D nu [] w (strsA l) v :=
 RA.of_rdSl hD (by omega) h (fun _ => rfl) (fun x _ cs hc => by subst hc; exact ⟨rls_of_vals [.string x], by simp [Value.oneCell']⟩)
theorem strs_ra1 {l : List ByteArray} {v : Value} (hD : ∀ b off n c, v = .slice (some ⟨b, off, none⟩) n c → D b) (h : RdStrs w l v) : RA D nu [] w (strsA l) v :=
 RA.of_rdSl1 (by omega) (fun b off n c e _ => hD b off n c e) h (fun _ => rfl) (fun x _ cs hc => by subst hc; exact ⟨rls_of_vals [.string x], by simp [Value.oneCell']⟩)
theorem encE_len (x : Ex) : (encE x).length = 3 := by rw [encE_eq]; rfl
theorem ex_ra (hD : ∀ b, b < w.heap.size → D b) : ∀ (x : Ex) (cs : List Value), RdEx w x cs → RLs D nu [] w (encE x) cs ∧ ∀ y ∈ cs, y.oneCell' = true := by
 intro x
 induction x using Ex.ind with
 | h k s l ih =>
  intro cs h
  rw [RdEx] at h
  obtain ⟨sv, rfl, h⟩ := h
  have h' := rdExs_iff.1 h
  have hs := RA.of_rdSl (nu := nu) hD (by omega : 0 < 3) h' encE_len (fun y hy cs hc => ih y hy cs hc)
  have ho := rdSl_one h'
  rw [encE, encEs_eq]
  refine ⟨⟨rfl, fun j c y h1 h2 => ?_⟩, by simp [Value.oneCell'] at ho ⊢; exact ho⟩
  match j, h1, h2 with
  | 0, h1, h2 => cases h1; cases h2; exact .v _
  | 1, h1, h2 => cases h1; cases h2; exact .v _
  | 2, h1, h2 => cases h1; cases h2; exact hs
  | j + 3, h1, h2 => simp at h1

/-! ### the older contracts, told so -/
theorem fin_ret {D : Nat → Prop} {nu : Nat → Nat → Value} {w : World} {v : Value} (hro : RO D nu [] w) {e : Ending} {w' : World} (h : Ret w v e w') : FinG D nu [] w (fun r' o' => r' = .v v ∧ o' = []) e w' := by
 obtain ⟨rfl, hb⟩ := h
 exact ⟨v, nu, [], .v v, rfl, mono_below hb, hro.below hb, .v v, rfl, rfl⟩
theorem Call1.of_ret {f : FuncId} {args : List AV} {v : Value} (hc : callOk P f = true) (ha : wfL 0 args = true) (h : ∀ D nu w vargs, RAs D nu [] w args vargs → Calls P f vargs w (Ret w v)) : Call1 P f args (.v v) :=
 ⟨⟨ha, rfl⟩, hc, fun D nu w vargs hro hra => (h D nu w vargs hra).mono (fun e w' hr => fin_ret hro hr)⟩
theorem Call1.of_strs {f : FuncId} {args : List AV} {l : List ByteArray} (hc : callOk P f = true) (ha : wfL 0 args = true)
  (h : ∀ D nu w vargs, RAs D nu [] w args vargs → Calls P f vargs w (fun e w' => ∃ v, e = .returned v ∧ RdStrs w' l v ∧ Below w.heap.size w w' ∧ ∀ b off n c, v = .slice (some ⟨b, off, none⟩) n c → w.heap.size ≤ b)) : Call1 P f args (strsA l) :=
 ⟨⟨ha, by simp only [strsA, AV.wf, wf_encS]⟩, hc, fun D nu w vargs hro hra => (h D nu w vargs hra).mono (fun e w' hr => by
  obtain ⟨v, rfl, h1, hb, h2⟩ := hr
  exact ⟨v, nu, [], strsA l, rfl, mono_below hb, hro.below hb, strs_ra1 (fun b off n c e => hro.up b (h2 b off n c e)) h1, rfl, rfl⟩)⟩
theorem Call1.args {f : FuncId} {args args' : List AV} {r : AV} (h : Call1 P f args r) (hw : wfL 0 args' = true) (hl : ∀ D nu w vargs, RAs D nu [] w args' vargs → RAs D nu [] w args vargs) : Call1 P f args' r :=
 ⟨⟨hw, h.1.2⟩, h.2.1, fun D nu w vargs hro hra => h.2.2 D nu w vargs hro (hl D nu w vargs hra)⟩
theorem ras_one {a : AV} {vargs : Array Value} (h : RAs D nu o w [a] vargs) : ∃ x, vargs = #[x] ∧ RA D nu o w a x := by
 obtain ⟨x, hx⟩ := List.length_eq_one_iff.1 (by simpa using h.len.symm : vargs.toList.length = 1)
 have e : vargs = #[x] := by apply Array.ext'; simpa using hx
 subst e
 exact ⟨x, rfl, h.at' 0 a x rfl rfl⟩
theorem ras_two {a b : AV} {vargs : Array Value} (h : RAs D nu o w [a, b] vargs) : ∃ x y, vargs = #[x, y] ∧ RA D nu o w a x ∧ RA D nu o w b y := by
 have hl : vargs.toList.length = 2 := by simpa using h.len.symm
 match hv : vargs.toList, hl with
 | [x, y], _ =>
  have e : vargs = #[x, y] := by apply Array.ext'; simpa using hv
  subst e
  exact ⟨x, y, rfl, h.at' 0 a x rfl rfl, h.at' 1 b y rfl rfl⟩

end
end Go.Proofs.YtfflpdekojlnmaaGreatDoor

namespace Go.Proofs.YtfflpdekojlnmaaGreatDoor
open Go.RowKit Go.ChangeShapes Go.Deep

def tStr (P : Program) (t : TypeId) : Option (List (TypeId × Nat × Nat)) := match P.underlying t with
 | some (.struct fs) => some (fs.toList.map fun f => (f.type, f.offset, P.cellsOf f.type))
 | _ => none

section
variable {H : Type} {enc : TypeId × Value → H} {P : Program} {w : World}

def Td (enc : TypeId × Value → H) (P : Program) (w : World) (n : Nat) (t : TypeId) (cs : List Value) : Prop := ∃ y, DataW.trod enc P w 0 (fun _ => true) true n t cs = some y ∧ ∀ k ∈ y.1.weights P t, k ≤ reachBytes
theorem weights_all {t : TypeId} : ∀ {l : List (DataW H)} {d : DataW H}, d ∈ l → ∀ k ∈ d.weights P t, k ∈ DataW.weightsAll P t l
 | y :: l, d, hd, k, hk => by
  rw [DataW.weightsAll, List.mem_append]
  rcases List.mem_cons.1 hd with rfl | hd
  ·exact .inl hk
  ·exact .inr (weights_all hd k hk)

theorem td_int {n : Nat} {t : TypeId} {cs : List Value} (ht : P.underlying t = some (.int .i64)) (h : Td enc P w n t cs) : ∃ k, cs = [.int .i64 k] ∧ (Lit.int .i64 k).wf = true := by
 obtain ⟨y, h, _⟩ := h
 obtain ⟨k, rfl, _, hk⟩ := DataW.trod_int ht h
 exact ⟨k, rfl, hk⟩
theorem td_str {n : Nat} {t : TypeId} {cs : List Value} (ht : P.underlying t = some .string) (h : Td enc P w n t cs) : ∃ s, cs = [.string s] ∧ okT s := by
 obtain ⟨y, h, hy⟩ := h
 obtain ⟨s, rfl, rfl, hs⟩ := DataW.trod_string ht h
 refine ⟨s, rfl, ?_⟩
 have := hy s.data.toList.length (by rw [DataW.weights]; exact List.mem_singleton.2 rfl)
 unfold reachBytes at this
 unfold okT
 have e : s.size = s.data.toList.length := rfl
 omega
theorem td_struct {n : Nat} {t : TypeId} {cs : List Value} {l : List (TypeId × Nat × Nat)} (hs : tStr P t = some l) (h : Td enc P w n t cs) :
  ∃ m, n = m + 1 ∧ cs.length = P.cellsOf t ∧ ∀ (i : Nat) T off sz, l[i]? = some (T, off, sz) → Td enc P w m T ((cs.drop off).take sz) := by
 obtain ⟨y, h, hy⟩ := h
 unfold tStr at hs
 split at hs
 ·rename_i fs ht
  cases hs
  obtain ⟨xs, m, rfl, rfl, h1, h2, h3⟩ := DataW.trod_struct ht h
  refine ⟨m, rfl, h1, fun i T off sz hi => ?_⟩
  rw [List.getElem?_map] at hi
  cases hf : fs[i]? with
  | none => simp [hf] at hi
  | some f =>
   simp [hf] at hi
   obtain ⟨rfl, rfl, rfl⟩ := hi
   have := h3 i f hf
   have hlt : i < xs.length := by rw [h2]; exact (Array.getElem?_eq_some_iff.1 hf).1
   rw [List.getElem?_eq_getElem hlt] at this
   refine ⟨_, this, fun k hk => hy k ?_⟩
   simp only [DataW.weights, ht]
   exact DataW.weights_mem_each (j := i) (t := f.type) (d := xs[i].1) (by simp [hf]) (by simp [hlt]) k hk
 ·cases hs
theorem td_row {α : Type} [Inhabited α] {n : Nat} {t e : TypeId} {z : Nat} {v : Value} {rd : α → List Value → Prop} {okx : α → Prop} (ht : P.underlying t = some (.slice e)) (hz : P.cellsOf e = z) (hz0 : 0 < z) (hby : 0 < P.bytesOf e)
  (h : Td enc P w n t [v]) (hrd : ∀ m cs, n = m + 1 → Td enc P w m e cs → ∃ x, rd x cs ∧ okx x) : ∃ xs : List α, RdSl w z rd xs v ∧ (∀ x, x ∈ xs → okx x) ∧ xs.length ≤ 140737488355328 := by
 obtain ⟨y, h, hy⟩ := h
 rcases DataW.trod_slice ht h with ⟨h0, _⟩ | ⟨a, len, cap, elems, rest, m, rfl, h0, rfl, hb, hl, hm, hlen, hel, hsp, _⟩
 ·cases h0
  exact ⟨[], .inl ⟨.inl rfl, rfl⟩, fun x hx => (by cases hx), by simp⟩
 ·cases h0
  rw [hz] at hel hsp
  obtain ⟨hrl, hre⟩ := hsp rfl
  have hw := hy ((elems.length + rest.length) * P.bytesOf e) (by simp [DataW.weights, ht])
  have hln : len ≤ 140737488355328 := by
   unfold reachBytes at hw
   have : elems.length + rest.length ≤ (elems.length + rest.length) * P.bytesOf e := Nat.le_mul_of_pos_right _ hby
   omega
  by_cases hc : cap = 0
  ·subst hc
   obtain rfl : len = 0 := by omega
   exact ⟨[], .inl ⟨.inr ⟨a, rfl⟩, rfl⟩, fun x hx => (by cases hx), by simp⟩
  ·have hspot : a.spot = none := by
    have k : ∃ u, ((w.cells? 0 (a.add (0 * z)) z).bind (DataW.trod enc P w 0 (fun _ => true) true m e)) = some u := by
     rcases Nat.eq_zero_or_pos len with q | q
     ·subst q
      have := hre 0 (by omega)
      rw [List.getElem?_eq_getElem (by omega)] at this
      exact ⟨_, this⟩
     ·have := hel 0 q
      rw [List.getElem?_eq_getElem (by omega)] at this
      exact ⟨_, this⟩
    obtain ⟨u, hu⟩ := k
    obtain ⟨cs, h1, _⟩ := Option.bind_eq_some_iff.1 hu
    obtain ⟨_, h2, h3⟩ := World.cells?_some h1
    have h4 := h3 0 hz0
    rw [List.getElem?_eq_getElem (by omega)] at h4
    have := World.cell?_spot h4
    simpa [Addr.add] using this
   obtain ⟨b, o, sp⟩ := a
   cases hspot
   have hx : ∀ i, i < len → ∃ x : α, okx x ∧ ∃ cs, rd x cs ∧ cellsAt w b (o + i * z) cs := fun i hi => by
    have h1 := hel i hi
    rw [List.getElem?_eq_getElem (by omega)] at h1
    obtain ⟨cs, h2, h3⟩ := Option.bind_eq_some_iff.1 h1
    obtain ⟨x, q1, q2⟩ := hrd m cs rfl ⟨_, h3, fun k hk => hy k (by
     simp only [DataW.weights, ht]
     refine List.mem_cons_of_mem _ (List.mem_append_left _ (weights_all (List.mem_map_of_mem (List.getElem_mem (l := elems) (n := i) (by omega))) k hk)))⟩
    obtain ⟨_, h4, h5⟩ := World.cells?_some h2
    refine ⟨x, q2, cs, q1, ?_⟩
    have key : ∀ (l : List Value) (off : Nat), (∀ (j : Nat) v, l[j]? = some v → w.cell? ⟨b, off + j, none⟩ = some v) → cellsAt w b off l := by
     intro l
     induction l with
     | nil => exact fun _ _ => trivial
     | cons y l ih => exact fun off h => ⟨by simpa using h 0 y rfl, ih (off + 1) (fun j v hj => by rw [show off + 1 + j = off + (j + 1) by omega]; exact h (j + 1) v (by simpa using hj))⟩
    refine key cs _ (fun j v hj => ?_)
    have hjl := (List.getElem?_eq_some_iff.1 hj).1
    have h6 := h5 j (by omega)
    rw [hj, Addr.add_lit, Addr.add_lit] at h6
    exact h6
   obtain ⟨f, hf⟩ := choose_lt hx
   refine ⟨(List.range len).map f, .inr ⟨b, o, cap, by simp, by simpa using hl, hm, fun i x hi => ?_⟩, fun x hx => ?_, by simp; omega⟩
   ·rw [List.getElem?_map] at hi
    have hil : i < len := by
     rcases Nat.lt_or_ge i len with q | q
     ·exact q
     ·rw [List.getElem?_eq_none (by simpa using q)] at hi; cases hi
    rw [List.getElem?_range hil] at hi
    cases hi
    exact (hf i hil).2
   ·obtain ⟨i, hi, rfl⟩ := List.mem_map.1 hx
    exact (hf i (List.mem_range.1 hi)).1
end

/-! ### the data of this program -/
section
variable {H : Type} {enc : TypeId × Value → H} {w : World}
instance : Inhabited Ex := ⟨.mk 0 ⟨#[]⟩ []⟩
instance : Inhabited Opd := ⟨⟨0, ⟨#[]⟩, ⟨#[]⟩, ⟨0, 0, ⟨#[]⟩⟩⟩⟩
instance : Inhabited Cnd := ⟨⟨0, default, default⟩⟩
instance : Inhabited Pat := ⟨⟨⟨#[]⟩, ⟨#[]⟩, false, ⟨#[]⟩, ⟨#[]⟩, default⟩⟩
theorem uInt : Tryz.prog.underlying 3 = some (.int .i64) := by kernel_rfl
theorem uStr : Tryz.prog.underlying 9 = some .string := by kernel_rfl

theorem uEK : Tryz.prog.underlying 22 = some (.int .i64) := by kernel_rfl

theorem sEx : tStr Tryz.prog 25 = some [(22, 0, 1), (9, 1, 1), (23, 2, 1)] := by kernel_rfl
theorem cEx : Tryz.prog.cellsOf 25 = 3 := by kernel_rfl

theorem uExs : Tryz.prog.underlying 23 = some (.slice 25) := by kernel_rfl

theorem bEx : 0 < Tryz.prog.bytesOf 25 := of_decide_eq_true (by kernel_rfl)

theorem td_ex : ∀ (n : Nat) {cs : List Value}, Td enc Tryz.prog w n 25 cs → ∃ x : Ex, RdEx w x cs ∧ x.ok := by
 intro n
 induction n using Nat.strongRecOn with
 | _ n ih =>
  intro cs h
  obtain ⟨m, rfl, hl, hf⟩ := td_struct sEx h
  rw [cEx] at hl
  obtain ⟨a, b, c, rfl⟩ : ∃ a b c, cs = [a, b, c] := by
   rcases cs with _ | ⟨a, _ | ⟨b, _ | ⟨c, _ | ⟨d, cs⟩⟩⟩⟩
   ·cases hl
   ·cases hl
   ·cases hl
   ·exact ⟨a, b, c, rfl⟩
   ·simp at hl
  obtain ⟨k, e0, _⟩ := td_int uEK (hf 0 _ _ _ rfl)
  obtain ⟨s, e1, h1⟩ := td_str uStr (hf 1 _ _ _ rfl)
  obtain ⟨xs, h2, h3, _⟩ := td_row uExs cEx (by omega) bEx (hf 2 _ _ _ rfl) (rd := RdEx w) (okx := Ex.ok) (fun m' cs' hm hx => ih m' (by omega) hx)
  cases e0; cases e1
  exact ⟨.mk k s xs, by rw [RdEx]; exact ⟨_, rfl, rdExs_iff.2 h2⟩, by rw [Ex.ok]; exact ⟨h1, exsOk_iff.2 h3⟩⟩

end
end Go.Proofs.YtfflpdekojlnmaaGreatDoor

namespace Go.Proofs.YtfflpdekojlnmaaGreatDoor
open Go.ChangeShapes Go.WideShapes Go.ChangeAt Go.RowKit

theorem Call1.to_ret {P : Program} {f : FuncId} {args : List AV} {v : Value} (h : Call1 P f args (.v v)) {w : World} {vargs : Array Value} (hr : RAs (fun _ => True) (fun _ _ => Go.undef) [] w args vargs) (hG : GlobOk (fun _ => True) (fun _ _ => Go.undef) [] w := by exact fun g T cs hg => by cases hg) :
  Calls P f vargs w (Ret w v) := by
 refine (h.2.2 _ _ w vargs (RO.nil _ _ _ (fun _ _ => trivial) hG) hr).mono fun e w' hf => ?_
 obtain ⟨x, nu', o', r, rfl, hm, _, hx, rfl, rfl⟩ := hf
 have e1 := hx.v_eq
 subst e1
 exact ⟨rfl, hm.os, hm.tape, hm.output, hm.size, fun b hb => (hm.keep b hb (owned_nil _ _)).1⟩

section
variable {H : Type} {enc : TypeId × Value → H} {w : World}

end
end Go.Proofs.YtfflpdekojlnmaaGreatDoor

namespace Go.Proofs.YtfflpdekojlnmaaGreatDoor
open Go.ChangeShapes Go.WideShapes Go.ChangeAt Go.RowKit

section
variable {H : Type} {enc : TypeId × Value → H} {w : World}
theorem trod_ex {v : Value} {d : DataW H} {ps : List MemPlace} (h : DataW.Trod enc Tryz.prog w 0 (fun _ => true) true 25 v d ps) (hw : ∀ k ∈ d.weights Tryz.prog 25, k ≤ reachBytes) :
  ∃ (x : Ex) (cx : List Value), v = .agg cx.toArray ∧ RdEx w x cx ∧ x.ok := by
 obtain ⟨n, h⟩ := h
 have ht : Td enc Tryz.prog w n 25 v.cells.toList := ⟨_, h, hw⟩
 obtain ⟨m, _, hl, _⟩ := td_struct sEx ht
 rw [cEx] at hl
 obtain ⟨x, h1, h2⟩ := td_ex n ht
 cases v with
 | agg cs => exact ⟨x, cs.toList, by simp, h1, h2⟩
 | _ => simp [Value.cells] at hl
theorem exArg_ra {D : Nat → Prop} {nu : Nat → Nat → Value} (hD : ∀ b, b < w.heap.size → D b) {x : Ex} {cx : List Value} (h : RdEx w x cx) : RA D nu [] w (.agg (encE x)) (.agg cx.toArray) := by
 obtain ⟨h1, h2⟩ := ex_ra (nu := nu) hD x cx h
 exact .agg _ _ (by simpa using h1.1) (fun i c y hc hy => h1.2 i c y hc (by simpa using hy)) (fun i y hy => h2 y (List.mem_of_getElem? (by simpa using hy)))
theorem uTexts : Tryz.prog.underlying 26 = some (.slice 9) := by kernel_rfl
theorem cTexts : Tryz.prog.cellsOf 9 = 1 := by kernel_rfl
theorem bTexts : 0 < Tryz.prog.bytesOf 9 := of_decide_eq_true (by kernel_rfl)
theorem trod_strs {a : Option Addr} {len cap : Nat} {d : DataW H} {ps : List MemPlace} (h : DataW.Trod enc Tryz.prog w 0 (fun _ => true) true 26 (.slice a len cap) d ps) (hw : ∀ k ∈ d.weights Tryz.prog 26, k ≤ reachBytes) :
  ∃ (l : List ByteArray), RdStrs w l (.slice a len cap) ∧ (∀ s, s ∈ l → okT s) ∧ l.length ≤ 140737488355328 := by
 obtain ⟨n, h⟩ := h
 have ht : Td enc Tryz.prog w n 26 [.slice a len cap] := ⟨_, h, hw⟩
 obtain ⟨xs, h2, h3, h4⟩ := td_row uTexts cTexts (by omega) bTexts ht (rd := RdStr) (okx := okT) (fun m' cs' hm hx => by
  obtain ⟨s, e1, e2⟩ := td_str uStr hx
  exact ⟨s, e1, e2⟩)
 exact ⟨xs, h2, h3, h4⟩
end
end Go.Proofs.YtfflpdekojlnmaaGreatDoor
