/- Expressions, operands, conditions, patterns, queries told as data of the abstract walk; what that says in words of the older readings. -/
import Derived.Test.YtfflpdekojlnmaaDoorLAbsZ
import Derived.Test.YtfflpdekojlnmaaDoorLBase2
set_option linter.unusedSimpArgs false
set_option linter.unusedVariables false
namespace Go.Proofs.YtfflpdekojlnmaaDoor
open Go.RowKit

def encS (s : ByteArray) : List AV := [.v (.string s)]
def encI (n : Int) : List AV := [.v (.int .i64 n)]
def encO (x : Opd) : List AV := [.v (.int .i64 x.kind), .v (.string x.name), .v (.string x.key), .v (.int .i64 x.val.kind), .v (.int .i64 x.val.num), .v (.string x.val.text)]
def encV (x : Val) : List AV := [.v (.int .i64 x.kind), .v (.int .i64 x.num), .v (.string x.text)]
def encC (x : Cnd) : List AV := [.v (.int .i64 x.op), .v (.int .i64 x.left.kind), .v (.string x.left.name), .v (.string x.left.key), .v (.int .i64 x.left.val.kind), .v (.int .i64 x.left.val.num), .v (.string x.left.val.text),
 .v (.int .i64 x.right.kind), .v (.string x.right.name), .v (.string x.right.key), .v (.int .i64 x.right.val.kind), .v (.int .i64 x.right.val.num), .v (.string x.right.val.text)]
mutual
def encE : Ex → List AV
 | .mk k s l => [.v (.int .i64 k), .v (.string s), .slc 3 (encEs l) l.length]
def encEs : List Ex → List (List AV)
 | [] => []
 | x :: xs => encE x :: encEs xs
end
theorem encEs_eq : ∀ l : List Ex, encEs l = l.map encE
 | [] => rfl
 | x :: xs => by rw [encEs, encEs_eq xs, List.map_cons]
theorem encE_eq (x : Ex) : encE x = [.v (.int .i64 x.kind), .v (.string x.label), .slc 3 (x.kids.map encE) x.kids.length] := by
 obtain ⟨k, s, l⟩ := x; rw [encE, encEs_eq]; rfl
def encP (p : Pat) : List AV := [.v (.string p.frm), .v (.string p.to), .v (.bool p.path), .v (.string p.label), .v (.string p.name), .v (.int .i64 p.expr.kind), .v (.string p.expr.label), .slc 3 (p.expr.kids.map encE) p.expr.kids.length]
def encQ (q : Qry) : List AV := [.slc 8 (q.pats.map encP) q.pats.length, .slc 13 (q.conds.map encC) q.conds.length, .slc 6 (q.ret.map encO) q.ret.length, .v (.int .i64 q.range), .v (.int .i64 q.slide)]
def strsA (l : List ByteArray) : AV := .slc 1 (l.map encS) l.length
def intsA (l : List Int) : AV := .slc 1 (l.map encI) l.length

theorem wf_encS (n : Nat) (l : List ByteArray) : wfR n (l.map encS) = true := wfR_map _ (fun _ => rfl) l
theorem wf_encI (n : Nat) (l : List Int) : wfR n (l.map encI) = true := wfR_map _ (fun _ => rfl) l
theorem wf_encO (n : Nat) (l : List Opd) : wfR n (l.map encO) = true := wfR_map _ (fun _ => rfl) l
theorem wf_encC (n : Nat) (l : List Cnd) : wfR n (l.map encC) = true := wfR_map _ (fun _ => rfl) l
theorem wf_encE1 (n : Nat) (x : Ex) : wfL n (encE x) = true := by
 induction x using Ex.ind with
 | h k s l ih =>
  rw [encE, encEs_eq]
  simp only [wfL, AV.wf, Bool.and_true, Bool.true_and]
  exact wfR_of (fun r hr => by obtain ⟨x, hx, rfl⟩ := List.mem_map.1 hr; exact ih x hx)
theorem wf_encE (n : Nat) (l : List Ex) : wfR n (l.map encE) = true := wfR_map _ (wf_encE1 n) l
theorem wf_encP1 (n : Nat) (p : Pat) : wfL n (encP p) = true := by simp only [encP, wfL, AV.wf, wf_encE, Bool.and_true]
theorem wf_encP (n : Nat) (l : List Pat) : wfR n (l.map encP) = true := wfR_map _ (wf_encP1 n) l
theorem wf_encQ (n : Nat) (q : Qry) : wfL n (encQ q) = true := by simp only [encQ, wfL, AV.wf, wf_encP, wf_encC, wf_encO, Bool.and_true]
attribute [go_sem] strsA intsA encS encI encO encV encC encP encQ wf_encS wf_encI wf_encO wf_encC wf_encE1 wf_encE wf_encP1 wf_encP wf_encQ
@[go_sem] theorem getD_map {α β : Type} (f : α → β) (l : List α) (k : Nat) (d : β) (h : k < l.length) : (l.map f).getD k d = f l[k] := by
 simp [List.getD, h]

section
variable {D : Nat → Prop} {nu : Nat → Nat → Value} {o : List (Option AObj)} {w : World} {P : Program}

theorem cellsAt_of {b : Nat} : ∀ {cs : List Value} {off : Nat}, (∀ (j : Nat) v, cs[j]? = some v → w.cell? ⟨b, off + j, none⟩ = some v) → cellsAt w b off cs
 | [], _, _ => trivial
 | y :: cs, off, h => ⟨by simpa using h 0 y rfl, cellsAt_of (off := off + 1) (fun j v hj => by rw [show off + 1 + j = off + (j + 1) by omega]; exact h (j + 1) v (by simpa using hj))⟩

def RLs (D : Nat → Prop) (nu : Nat → Nat → Value) (o : List (Option AObj)) (w : World) (cs : List AV) (xs : List Value) : Prop := cs.length = xs.length ∧ ∀ (j : Nat) c x, cs[j]? = some c → xs[j]? = some x → RA D nu o w c x

theorem RA.rdSl {α : Type} {z : Nat} {enc : α → List AV} {rd : α → List Value → Prop} {xs : List α} {v : Value} (h : RA D nu o w (.slc z (xs.map enc) xs.length) v) (hrd : ∀ x, x ∈ xs → ∀ cs : List Value, RLs D nu o w (enc x) cs → rd x cs) : RdSl w z rd xs v := by
 generalize hn : xs.length = n at h
 generalize hr : xs.map enc = rows at h
 cases h with
 | slcNil =>
  exact .inl ⟨.inl rfl, List.length_eq_zero_iff.1 hn⟩
 | slcOdd _ a =>
  exact .inl ⟨.inr ⟨a, rfl⟩, List.length_eq_zero_iff.1 hn⟩
 | slc _ _ _ b off cap f h1 h2 h3 h4 h5 h6 h7 h8 =>
  subst hr
  simp only [List.length_map] at h2
  refine .inr ⟨b, off, cap, by rw [hn], h2, h3, fun i x hx => ?_⟩
  have hi : (xs.map enc)[i]? = some (enc x) := by rw [List.getElem?_map, hx]; rfl
  refine ⟨(List.range (enc x).length).map (f i), hrd x (List.mem_of_getElem? hx) _ ⟨by simp, fun j c y hc hy => ?_⟩, cellsAt_of (fun j y hy => ?_)⟩
  ·have hj := (List.getElem?_eq_some_iff.1 hc).1
   rw [List.getElem?_map, List.getElem?_range hj] at hy
   cases hy
   exact h7 i j _ c hi hc
  ·rw [List.getElem?_map] at hy
   have hj : j < (enc x).length := by
    rcases Nat.lt_or_ge j (enc x).length with q | q
    ·exact q
    ·rw [List.getElem?_eq_none (by simpa using q)] at hy; cases hy
   rw [List.getElem?_range hj] at hy
   cases hy
   exact h6 i j _ _ hi (List.getElem?_eq_getElem hj)

theorem rls_vals {vs cs : List Value} (h : RLs D nu o w (vs.map AV.v) cs) : cs = vs := by
 apply List.ext_getElem?
 intro i
 have hl := h.1
 simp only [List.length_map] at hl
 rcases Nat.lt_or_ge i vs.length with q | q
 ·have e1 : (vs.map AV.v)[i]? = some (.v vs[i]) := by simp [q]
  have e2 : cs[i]? = some cs[i] := List.getElem?_eq_getElem (by omega)
  have := (h.2 i _ _ e1 e2).v_eq
  rw [e2, this, List.getElem?_eq_getElem q]
 ·rw [List.getElem?_eq_none q, List.getElem?_eq_none (by omega)]

theorem rls_ex : ∀ (x : Ex) (cs : List Value), RLs D nu o w (encE x) cs → RdEx w x cs := by
 intro x
 induction x using Ex.ind with
 | h k s l ih =>
  intro cs h
  rw [encE, encEs_eq] at h
  obtain ⟨hl, hr⟩ := h
  match cs, hl with
  | [a, b, c], _ =>
   have h0 := (hr 0 _ a rfl rfl).v_eq
   have h1 := (hr 1 _ b rfl rfl).v_eq
   have h2 := hr 2 _ c rfl rfl
   rw [RdEx]
   exact ⟨c, by rw [h0, h1], rdExs_iff.2 (RA.rdSl h2 (fun y hy cs' hc => ih y hy cs' hc))⟩

theorem ra_agg {cs : List AV} {v : Value} (h : RA D nu o w (.agg cs) v) : ∃ xs : List Value, v = .agg xs.toArray ∧ RLs D nu o w cs xs := by
 cases h with
 | agg _ xs h1 h2 h3 => exact ⟨xs.toList, by simp, by simpa using h1, fun j c x q1 q2 => h2 j c x q1 (by simpa using q2)⟩

/-! ### the other way, where nothing is owned -/
theorem RA.of_rdSl1 {α : Type} {z : Nat} (hz : 0 < z) {enc : α → List AV} {rd : α → List Value → Prop} {xs : List α} {v : Value} (hD : ∀ b off n c, v = .slice (some ⟨b, off, none⟩) n c → b < w.heap.size → D b) (h : RdSl w z rd xs v) (hlen : ∀ x, (enc x).length = z)
  (hrd : ∀ x, x ∈ xs → ∀ cs : List Value, rd x cs → RLs D nu [] w (enc x) cs ∧ ∀ y ∈ cs, y.oneCell' = true) : RA D nu [] w (.slc z (xs.map enc) xs.length) v := by
 rcases h with ⟨rfl | ⟨a, rfl⟩, rfl⟩ | ⟨b, off, cap, rfl, h1, h2, h3⟩
 ·exact .slcNil z
 ·exact .slcOdd z a
 ·have hex : ∀ i : Nat, ∃ cs : List Value, ∀ x, xs[i]? = some x → rd x cs ∧ cellsAt w b (off + i * z) cs := fun i => by
   cases hx : xs[i]? with
   | none => exact ⟨[], fun x hx => by cases hx⟩
   | some x =>
    obtain ⟨cs, q⟩ := h3 i x hx
    exact ⟨cs, fun y hy => by cases hy; exact q⟩
  let g : Nat → List Value := fun i => Classical.choose (hex i)
  have hg : ∀ i x, xs[i]? = some x → rd x (g i) ∧ cellsAt w b (off + i * z) (g i) := fun i x hx => Classical.choose_spec (hex i) x hx
  have key : ∀ (i j : Nat) row c, (xs.map enc)[i]? = some row → row[j]? = some c → ∃ y, (g i)[j]? = some y ∧ w.cell? ⟨b, off + i * z + j, none⟩ = some y ∧ RA D nu [] w c y ∧ y.oneCell' = true := by
   intro i j row c hi hj
   rw [List.getElem?_map] at hi
   cases hx : xs[i]? with
   | none => rw [hx] at hi; cases hi
   | some x =>
    rw [hx] at hi
    cases hi
    obtain ⟨q1, q2⟩ := hg i x hx
    obtain ⟨q3, q4⟩ := hrd x (List.mem_of_getElem? hx) _ q1
    have hjl : j < (g i).length := by rw [← q3.1]; exact (List.getElem?_eq_some_iff.1 hj).1
    have e := List.getElem?_eq_getElem hjl
    exact ⟨_, e, cellsAt_get q2 j _ e, q3.2 j c _ hj e, q4 _ (List.mem_of_getElem? e)⟩
  refine .slc z _ _ b off cap (fun i j => (g i).getD j Go.undef) (by simp) (by simpa using h1) h2 (fun hne => ?_) (fun i row hi => ?_) (fun i j row c hi hj => ?_) (fun i j row c hi hj => ?_) (fun i j row c hi hj => ?_)
  ·obtain ⟨x, xs', rfl⟩ : ∃ x xs', xs = x :: xs' := by
    cases xs with
    | nil => exact absurd rfl hne
    | cons x xs' => exact ⟨x, xs', rfl⟩
   obtain ⟨c, hc⟩ : ∃ c, (enc x)[0]? = some c := ⟨_, List.getElem?_eq_getElem (by rw [hlen x]; exact hz)⟩
   obtain ⟨y, _, q, _⟩ := key 0 0 (enc x) c (by simp) hc
   have hlt := lt_of_cell q
   exact ⟨hlt, owned_nil _ _, hD _ _ _ _ rfl hlt⟩
  ·rw [List.getElem?_map] at hi
   cases hx : xs[i]? with
   | none => rw [hx] at hi; cases hi
   | some x => rw [hx] at hi; cases hi; exact hlen x
  ·obtain ⟨y, q1, q2, _⟩ := key i j row c hi hj
   rw [q2, getD_some q1]
  ·obtain ⟨y, q1, _, q3, _⟩ := key i j row c hi hj
   rw [getD_some q1]; exact q3
  ·obtain ⟨y, q1, _, _, q4⟩ := key i j row c hi hj
   rw [getD_some q1]; exact q4

theorem RA.of_rdSl (hD : ∀ b, b < w.heap.size → D b) {α : Type} {z : Nat} (hz : 0 < z) {enc : α → List AV} {rd : α → List Value → Prop} {xs : List α} {v : Value} (h : RdSl w z rd xs v) (hlen : ∀ x, (enc x).length = z)
  (hrd : ∀ x, x ∈ xs → ∀ cs : List Value, rd x cs → RLs D nu [] w (enc x) cs ∧ ∀ y ∈ cs, y.oneCell' = true) : RA D nu [] w (.slc z (xs.map enc) xs.length) v := RA.of_rdSl1 hz (fun b _ _ _ _ hb => hD b hb) h hlen hrd

theorem rls_of_vals (vs : List Value) : RLs D nu o w (vs.map AV.v) vs := ⟨by simp, fun j c x h1 h2 => by
 rw [List.getElem?_map, h2] at h1; cases h1; exact .v x⟩

theorem rdSl_one {α : Type} {z : Nat} {rd : α → List Value → Prop} {xs : List α} {v : Value} (h : RdSl w z rd xs v) : v.oneCell' = true := by
 rcases h with ⟨rfl | ⟨a, rfl⟩, _⟩ | ⟨b, off, cap, rfl, _⟩ <;> rfl
theorem strs_ra1 {l : List ByteArray} {v : Value} (hD : ∀ b off n c, v = .slice (some ⟨b, off, none⟩) n c → D b) (h : RdStrs w l v) : RA D nu [] w (strsA l) v :=
 RA.of_rdSl1 (by omega) (fun b off n c e _ => hD b off n c e) h (fun _ => rfl) (fun x _ cs hc => by subst hc; exact ⟨rls_of_vals [.string x], by simp [Value.oneCell']⟩)
theorem encE_len (x : Ex) : (encE x).length = 3 := by rw [encE_eq]; rfl
theorem ex_ra (hD : ∀ b, b < w.heap.size → D b) : ∀ (x : Ex) (cs : List Value), RdEx w x cs → RLs D nu [] w (encE x) cs ∧ ∀ y ∈ cs, y.oneCell' = true := by
 intro x
 induction x using Ex.ind with
 | h k s l ih =>
  intro cs h
  rw [RdEx] at h
  obtain ⟨sv, rfl, h⟩ := h
  have h' := rdExs_iff.1 h
  have hs := RA.of_rdSl (nu := nu) hD (by omega : 0 < 3) h' encE_len (fun y hy cs hc => ih y hy cs hc)
  have ho := rdSl_one h'
  rw [encE, encEs_eq]
  refine ⟨⟨rfl, fun j c y h1 h2 => ?_⟩, by simp [Value.oneCell'] at ho ⊢; exact ho⟩
  match j, h1, h2 with
  | 0, h1, h2 => cases h1; cases h2; exact .v _
  | 1, h1, h2 => cases h1; cases h2; exact .v _
  | 2, h1, h2 => cases h1; cases h2; exact hs
  | j + 3, h1, h2 => simp at h1

/-! ### the older contracts, told so -/
theorem fin_ret {D : Nat → Prop} {nu : Nat → Nat → Value} {w : World} {v : Value} (hro : RO D nu [] w) {e : Ending} {w' : World} (h : Ret w v e w') : FinG D nu [] w (fun r' o' => r' = .v v ∧ o' = []) e w' := by
 obtain ⟨rfl, hb⟩ := h
 exact ⟨v, nu, [], .v v, rfl, mono_below hb, hro.below hb, .v v, rfl, rfl⟩
theorem Call1.of_ret {f : FuncId} {args : List AV} {v : Value} (hc : callOk P f = true) (ha : wfL 0 args = true) (h : ∀ D nu w vargs, RAs D nu [] w args vargs → Calls P f vargs w (Ret w v)) : Call1 P f args (.v v) :=
 ⟨⟨ha, rfl⟩, hc, fun D nu w vargs hro hra => (h D nu w vargs hra).mono (fun e w' hr => fin_ret hro hr)⟩
theorem Call1.of_strs {f : FuncId} {args : List AV} {l : List ByteArray} (hc : callOk P f = true) (ha : wfL 0 args = true)
  (h : ∀ D nu w vargs, RAs D nu [] w args vargs → Calls P f vargs w (fun e w' => ∃ v, e = .returned v ∧ RdStrs w' l v ∧ Below w.heap.size w w' ∧ ∀ b off n c, v = .slice (some ⟨b, off, none⟩) n c → w.heap.size ≤ b)) : Call1 P f args (strsA l) :=
 ⟨⟨ha, by simp only [strsA, AV.wf, wf_encS]⟩, hc, fun D nu w vargs hro hra => (h D nu w vargs hra).mono (fun e w' hr => by
  obtain ⟨v, rfl, h1, hb, h2⟩ := hr
  exact ⟨v, nu, [], strsA l, rfl, mono_below hb, hro.below hb, strs_ra1 (fun b off n c e => hro.up b (h2 b off n c e)) h1, rfl, rfl⟩)⟩
theorem Call1.args {f : FuncId} {args args' : List AV} {r : AV} (h : Call1 P f args r) (hw : wfL 0 args' = true) (hl : ∀ D nu w vargs, RAs D nu [] w args' vargs → RAs D nu [] w args vargs) : Call1 P f args' r :=
 ⟨⟨hw, h.1.2⟩, h.2.1, fun D nu w vargs hro hra => h.2.2 D nu w vargs hro (hl D nu w vargs hra)⟩
theorem ras_one {a : AV} {vargs : Array Value} (h : RAs D nu o w [a] vargs) : ∃ x, vargs = #[x] ∧ RA D nu o w a x := by
 obtain ⟨x, hx⟩ := List.length_eq_one_iff.1 (by simpa using h.len.symm : vargs.toList.length = 1)
 have e : vargs = #[x] := by apply Array.ext'; simpa using hx
 subst e
 exact ⟨x, rfl, h.at' 0 a x rfl rfl⟩
theorem ras_two {a b : AV} {vargs : Array Value} (h : RAs D nu o w [a, b] vargs) : ∃ x y, vargs = #[x, y] ∧ RA D nu o w a x ∧ RA D nu o w b y := by
 have hl : vargs.toList.length = 2 := by simpa using h.len.symm
 match hv : vargs.toList, hl with
 | [x, y], _ =>
  have e : vargs = #[x, y] := by apply Array.ext'; simpa using hv
  subst e
  exact ⟨x, y, rfl, h.at' 0 a x rfl rfl, h.at' 1 b y rfl rfl⟩

end
end Go.Proofs.YtfflpdekojlnmaaDoor
