/- dfa.key: the text of a set: strings.Builder, strconv.Itoa. -/
import Derived.Test.YtfflpdekojlnmaaDoorLDfaA
import Derived.Test.YtfflpdekojlnmaaDoorLDfaS
import Derived.Shelf.Strconv.Itoa3
import Derived.Shelf.Strings.BuilderK
import Derived.Lib.AppendIntMem
set_option linter.unusedSimpArgs false
set_option linter.unusedVariables false
namespace Go.Proofs.YtfflpdekojlnmaaDoor
open Go.RowKit

def bstRen : Go.Shelf.Ren := ⟨fun | 169 => 48 | n => n, fun | 70 => 93 | 9 => 9 | 0 => 0 | 72 => 96 | 37 => 94 | 127 => 127 | 3 => 3 | 5 => 5 | n => n, fun n => n⟩
theorem bstLays : Lays.n169 Tryd.prog bstRen := {
 mixed := by kernel_rfl
 f169 := Tryd.func48
 t0 := by kernel_rfl
 a0 := fun w => by kernel_rfl
 z0 := fun w => by kernel_rfl
 v0 := fun w => by kernel_rfl
 t3 := by kernel_rfl
 a3 := fun w => by kernel_rfl
 z3 := fun w => by kernel_rfl
 v3 := fun w => by kernel_rfl
 t9 := by kernel_rfl
 a9 := fun w => by kernel_rfl
 z9 := fun w => by kernel_rfl
 v9 := fun w => by kernel_rfl
 t37 := by kernel_rfl
 a37 := fun w => by kernel_rfl
 z37 := fun w => by kernel_rfl
 v37 := fun w => by kernel_rfl
 t70 := by kernel_rfl
 a70 := fun w => by kernel_rfl
 z70 := fun w => by kernel_rfl
 v70 := fun w => by kernel_rfl
 t72 := by kernel_rfl
 a72 := fun w => by kernel_rfl
 z72 := fun w => by kernel_rfl
 v72 := fun w => by kernel_rfl
 t127 := by kernel_rfl
 a127 := fun w => by kernel_rfl
 z127 := fun w => by kernel_rfl
 v127 := fun w => by kernel_rfl }
def itoaRen : Go.Shelf.Ren := ⟨fun | 171 => 47 | 243 => 72 | 246 => 88 | 283 => 92 | 284 => 93 | 285 => 94 | 286 => 95 | 129 => 70 | 317 => 96 | 318 => 97 | 319 => 98 | 320 => 99 | 337 => 80 | 338 => 100 | n => n, fun | 3 => 3 | 9 => 9 | 2 => 2 | 4 => 4 | 171 => 146 | 0 => 0 | 53 => 126 | 37 => 94 | 5 => 5 | 173 => 148 | 212 => 152 | 51 => 63 | 20 => 20 | 213 => 153 | 46 => 92 | 232 => 142 | 233 => 154 | n => n, fun | 17 => 1 | 18 => 0 | 19 => 2 | n => n⟩
theorem itoa0Lays : Lays.n171 Tryd.prog itoaRen := {
 mixed := by kernel_rfl
 f129 := Tryd.func70
 f171 := Tryd.func47
 f243 := Tryd.func72
 f246 := Tryd.func88
 f283 := Tryd.func92
 f284 := Tryd.func93
 f285 := Tryd.func94
 f286 := Tryd.func95
 f317 := Tryd.func96
 f318 := Tryd.func97
 f319 := Tryd.func98
 f320 := Tryd.func99
 f337 := Tryd.func80
 f338 := Tryd.func100
 t0 := by kernel_rfl
 a0 := fun w => by kernel_rfl
 z0 := fun w => by kernel_rfl
 v0 := fun w => by kernel_rfl
 t2 := by kernel_rfl
 a2 := fun w => by kernel_rfl
 z2 := fun w => by kernel_rfl
 v2 := fun w => by kernel_rfl
 t3 := by kernel_rfl
 a3 := fun w => by kernel_rfl
 z3 := fun w => by kernel_rfl
 v3 := fun w => by kernel_rfl
 t4 := by kernel_rfl
 a4 := fun w => by kernel_rfl
 z4 := fun w => by kernel_rfl
 v4 := fun w => by kernel_rfl
 t5 := by kernel_rfl
 a5 := fun w => by kernel_rfl
 z5 := fun w => by kernel_rfl
 v5 := fun w => by kernel_rfl
 t9 := by kernel_rfl
 a9 := fun w => by kernel_rfl
 z9 := fun w => by kernel_rfl
 v9 := fun w => by kernel_rfl
 t20 := by kernel_rfl
 a20 := fun w => by kernel_rfl
 z20 := fun w => by kernel_rfl
 v20 := fun w => by kernel_rfl
 t37 := by kernel_rfl
 a37 := fun w => by kernel_rfl
 z37 := fun w => by kernel_rfl
 v37 := fun w => by kernel_rfl
 t46 := by kernel_rfl
 a46 := fun w => by kernel_rfl
 z46 := fun w => by kernel_rfl
 v46 := fun w => by kernel_rfl
 t51 := by kernel_rfl
 a51 := fun w => by kernel_rfl
 z51 := fun w => by kernel_rfl
 v51 := fun w => by kernel_rfl
 t53 := by kernel_rfl
 a53 := fun w => by kernel_rfl
 z53 := fun w => by kernel_rfl
 v53 := fun w => by kernel_rfl
 t171 := by kernel_rfl
 a171 := fun w => by kernel_rfl
 z171 := fun w => by kernel_rfl
 v171 := fun w => by kernel_rfl
 t173 := by kernel_rfl
 a173 := fun w => by kernel_rfl
 z173 := fun w => by kernel_rfl
 v173 := fun w => by kernel_rfl
 t212 := by kernel_rfl
 a212 := fun w => by kernel_rfl
 z212 := fun w => by kernel_rfl
 v212 := fun w => by kernel_rfl
 t213 := by kernel_rfl
 a213 := fun w => by kernel_rfl
 z213 := fun w => by kernel_rfl
 t232 := by kernel_rfl
 a232 := fun w => by kernel_rfl
 z232 := fun w => by kernel_rfl
 v232 := fun w => by kernel_rfl
 t233 := by kernel_rfl
 a233 := fun w => by kernel_rfl
 z233 := fun w => by kernel_rfl
 v233 := fun w => by kernel_rfl
 g17 := by kernel_rfl
 g18 := by kernel_rfl
 g19 := by kernel_rfl }
theorem itoaLays : LaysM.n171 Tryd.prog itoaRen := { itoa0Lays with
 i0 := by kernel_rfl
 i2 := by kernel_rfl
 i3 := by kernel_rfl
 i4 := by kernel_rfl
 i5 := by kernel_rfl
 i9 := by kernel_rfl
 i20 := by kernel_rfl
 i37 := by kernel_rfl
 i46 := by kernel_rfl
 i51 := by kernel_rfl
 i53 := by kernel_rfl
 i171 := by kernel_rfl
 i173 := by kernel_rfl
 i212 := by kernel_rfl
 i232 := by kernel_rfl
 i233 := by kernel_rfl
 m17 := by kernel_rfl
 m18 := by kernel_rfl
 m19 := by kernel_rfl }
theorem bSize : (Tryd.prog.info? 96).map (·.size) = some 2 := by kernel_rfl
theorem bLies : liesAt Tryd.prog Tryd.prog.depth 96 (2 / Tryd.prog.cellsOf 96) 0 96 1 = true := by kernel_rfl
theorem bByte : (Tryd.prog.info? 5).map (fun i => (i.zero, i.size, i.bytes)) = some (some (.int .u8 0), 1, 1) := by kernel_rfl
set_option maxRecDepth 100000 in
theorem bExtra : Builder.Extra Tryd.prog bstRen := { sizeBuilder := bSize, liesBuilder := bLies, t5 := by kernel_rfl, a5 := fun w => by kernel_rfl, z5 := fun w => by kernel_rfl, v5 := fun w => by kernel_rfl, infoByte := bByte, cellsByte := by kernel_rfl, sizeByte := by kernel_rfl, neB5 := by decide }
theorem uBp : Tryd.prog.underlying 93 = some (.pointer 96) := by kernel_rfl
theorem uUp : Tryd.prog.underlying 137 = some .unsafePointer := by kernel_rfl
set_option maxHeartbeats 1000000 in
set_option maxRecDepth 100000 in
theorem copyFresh_any (b : Nat) (w : World) (h0 : w.cell? ⟨b, 0, none⟩ = some (.pointer none)) (hsh : w.shape? b = some (96, 2)) (hfz : w.frozen? ⟨b, 0, none⟩ = false) :
  Calls Tryd.prog 71 #[.pointer (some ⟨b, 0, none⟩)] w fun e w' => e = .returned (.tuple #[]) ∧ w' = w.setCell ⟨b, 0, none⟩ (.pointer (some ⟨b, 0, none⟩)) := by
 obtain ⟨j, hj, hjs⟩ := Option.map_eq_some_iff.1 bSize
 go_enter Tryd.func71, Tryd.ntmps71
 go_wp2
 rw [Lib.run_to_unsafe w ⟨b, 0, none⟩ uBp uUp hj (by rw [hjs]; decide) hsh (Nat.zero_lt_succ 1)]
 simp only [Result.andThen]
 rw [Oper.upon_value]
 go_wp2
 rw [run_callFunc_extern Tryd.func87 (by kernel_rfl) (by kernel_rfl) (by kernel_rfl) (e := Extern.AbiNoEscape.same) (by kernel_rfl)]
 rw [Lib.run_noEscape]
 simp only [Result.andThen]
 rw [Oper.upon_value]
 go_wp2
 rw [Lib.run_from_unsafe w ⟨b, 0, none⟩ uUp uBp hj hsh bLies]
 simp only [Result.andThen]
 rw [Oper.upon_value]
 go_wp2
 go_end0
 exact ⟨rfl, rfl⟩
set_option maxHeartbeats 1000000 in
set_option maxRecDepth 100000 in
theorem copyUsed_any (b : Nat) (w : World) (h0 : w.cell? ⟨b, 0, none⟩ = some (.pointer (some ⟨b, 0, none⟩))) :
  Calls Tryd.prog 71 #[.pointer (some ⟨b, 0, none⟩)] w fun e w' => e = .returned (.tuple #[]) ∧ w' = w := by
 obtain ⟨j, hj, _⟩ := Option.map_eq_some_iff.1 bSize
 go_enter Tryd.func71, Tryd.ntmps71
 go_wp2
 rw [Lib.run_neq_ptr_same w _ uBp hj]
 go_wp2
 go_end0
 exact ⟨rfl, rfl⟩
abbrev IsB (B b : Nat) (bs : List Value) (w : World) : Prop := Lib.IsBuilderF 96 5 B b bs w
theorem copyCheck_any (B b : Nat) (bs : List Value) (w : World) (h : IsB B b bs w) :
  Calls Tryd.prog 71 #[.pointer (some ⟨b, 0, none⟩)] w fun e w' => e = .returned (.tuple #[]) ∧ Lib.BuilderAtF 96 5 B b (.pointer (some ⟨b, 0, none⟩)) bs w' ∧ Below B w w' := by
 rcases h with h | h
 ·refine (copyFresh_any b w h.cell0 h.shape h.frozen0).mono ?_
  rintro e w' ⟨rfl, rfl⟩
  exact ⟨rfl, h.used _, (Below.refl B w).setCell (p := ⟨b, 0, none⟩) h.1 _⟩
 ·refine (copyUsed_any b w h.cell0).mono ?_
  rintro e w' ⟨rfl, rfl⟩
  exact ⟨rfl, h, Below.refl B _⟩
theorem uBytes : Tryd.prog.underlying 94 = some (.slice 5) := by kernel_rfl
theorem uStrK : Tryd.prog.underlying 9 = some .string := by kernel_rfl
set_option maxHeartbeats 2000000 in
set_option maxRecDepth 100000 in
theorem writeS_any (B b : Nat) (bs : List Value) (s : ByteArray) (w : World) (h : IsB B b bs w) (hlen : bs.length + s.size ≤ 140737488355328) (hBw : B ≤ w.heap.size) :
  Calls Tryd.prog 46 #[.pointer (some ⟨b, 0, none⟩), .string s] w fun e w' => e = .returned (.tuple #[.int .i64 s.size, .nilIface]) ∧ IsB B b (bs ++ Lib.strCells s) w' ∧ Below B w w' := by
 obtain ⟨i0, hi, hz0, hz1, hz2⟩ := info_parts bByte
 go_enter Tryd.func46, Tryd.ntmps46
 go_wp2_with fail
 refine (copyCheck_any B b bs _ h).mono ?_
 rintro e w1 ⟨rfl, h1, hb1⟩
 obtain ⟨hB, v, hbk, hown, hne⟩ := h1
 have hlt : b < w1.heap.size := (Array.getElem?_eq_some_iff.1 hbk).1
 have c0 : w1.cell? ⟨b, 0, none⟩ = some (.pointer (some ⟨b, 0, none⟩)) := by rw [Lib.cell_of_heap hbk]; rfl
 have c1 : w1.cell? ⟨b, 1, none⟩ = some v := by rw [Lib.cell_of_heap hbk]; rfl
 go_wp2_with (at_builtin; refine Lib.wpList_append_own_stringF _ rfl _ _ 94 9 rfl B 5 i0 uBytes uStrK hi hz0 hz1 hz2 _ _ _ rfl hown s rfl ?c3 ?c4 ?c5 ?_)
 case c3 => unfold maxLen; omega
 case c4 => omega
 case c5 => have := hb1.size; omega
 intro v' w2 hown' hgrow _
 have hb2 : w2.heap[b]? = some (.cells #[.pointer (some ⟨b, 0, none⟩), v] 96 (0, 0)) := (hgrow.block b hlt (fun e => hne e.symm)).trans hbk
 have d0 : w2.cell? ⟨b, 0, none⟩ = some (.pointer (some ⟨b, 0, none⟩)) := by rw [Lib.cell_of_heap hb2]; rfl
 have d1 : w2.cell? ⟨b, 1, none⟩ = some v := by rw [Lib.cell_of_heap hb2]; rfl
 have f1 : w2.frozen? ⟨b, 1, none⟩ = false := Lib.frozen_of_heap hb2 1
 obtain ⟨ao, n', cap, rfl⟩ : ∃ ao n' cap, v' = .slice ao n' cap := by
  rcases hown'.2 with ⟨hv, _⟩ | ⟨g, cap, cur, fz, hv, _⟩ <;> exact ⟨_, _, _, hv⟩
 go_wp2
 go_ret2
 refine ⟨rfl, .inr (Lib.BuilderAtF.put (T := 96) (e := 5) hB hb2 (bs' := bs ++ Lib.strCells s) (by simpa [Lib.strCells_length] using hown') (by decide)), ?_⟩
 exact (hb1.grown hgrow (by have := hb1.size; omega) (fun k hk => (hown.lt k hk).1)).setCell (p := ⟨b, 1, none⟩) hB _
def RdNat (n : Nat) (cs : List Value) : Prop := cs = [.int .i64 (n : Nat)]
abbrev RdNats (w : World) (l : List Nat) (v : Value) : Prop := RdSl w 1 RdNat l v
theorem rdNats_at {w : World} {xs : List Nat} {p : Option Addr} {n cap : Nat} (h : RdNats w xs (.slice p n cap)) {k : Nat} (hk : k < xs.length) :
  ∃ b o, p = some ⟨b, o, none⟩ ∧ w.cell? ⟨b, o + k, none⟩ = some (.int .i64 (xs[k] : Nat)) := by
 obtain ⟨b, o, cs, hp, hr, hc⟩ := RdSl.at h hk
 subst hr
 rw [Nat.mul_one] at hc; replace hc := cellsAt_get hc
 exact ⟨b, o, hp, by simpa using hc 0 _ rfl⟩
theorem keyL_snoc (l : List Nat) (n : Nat) : keyL (l ++ [n]) = keyL l ++ (Lib.decDigits n ++ [32]) := by simp [keyL]
theorem keyL_len (l : List Nat) (hs : ∀ n ∈ l, n < 1000) : (keyL l).length ≤ 4 * l.length := by
 induction l with
 | nil => simp [keyL]
 | cons a l ih =>
  have h1 := digs_len a (hs a List.mem_cons_self)
  have h2 := ih (fun n hn => hs n (List.mem_cons_of_mem _ hn))
  simp only [keyL, List.flatMap_cons, List.length_append, List.length_cons, List.length_nil] at *
  omega
set_option maxHeartbeats 4000000 in
set_option maxRecDepth 100000 in
theorem key_any (l : List Nat) (hs : ∀ n ∈ l, n < 100) (hl : l.length ≤ 1000000) (v : Value) (w : World) (h1 : RdNats w l v) : Calls Tryd.prog 28 #[v] w (Ret w (.string (keyB l))) := by
 obtain ⟨p, c, rfl, hc1, hc2⟩ := h1.shape
 unfold maxLen at hc2
 have H1 := Lib.hid h1; have HS := Lib.hid hs; clear h1 hs
 go_enter Tryd.func28, Tryd.ntmps28
 go_wp2_with fail
 go_loopw [8] (fun i wr => ∃ k : Nat, k ≤ l.length ∧ i = .int .i64 k ∧ Below w.heap.size w wr ∧ IsB w.heap.size w.heap.size (Lib.byteCells (keyL (l.take k))) wr) (fun i _ => l.length - (intOf i).toNat)
 case atStart => exact ⟨0, Nat.zero_le _, rfl, (Below.refl _ w).alloc (Nat.le_refl _) _, by rw [List.take_zero]; exact Lib.IsBuilderF.of (Lib.fresh_isBuilder 96 5 w)⟩
 case round =>
  obtain ⟨k, hk, rfl, hb, hI⟩ := hrel
  have HB := Lib.hid hb; have HI := Lib.hid hI; clear hb hI
  by_cases hlt : k < l.length
  ·obtain ⟨b1, o1, rfl, a0⟩ := rdNats_at (RdSl.below H1.out HB.out) hlt
   have CI := Lib.hid (Any.strconv_Itoa_small itoa0Lays l[k] (HS.out _ (List.getElem_mem hlt)) wr)
   have hk1 : (keyL (l.take k)).length ≤ 4 * k := by
    have := keyL_len (l.take k) (fun n hn => by have := HS.out n (List.mem_of_mem_take hn); omega)
    have h2 : (l.take k).length ≤ k := List.length_take_le _ _
    omega
   have hk2 := digs_len l[k] (by have := HS.out _ (List.getElem_mem hlt); omega)
   have CW := Lib.hid (writeS_any w.heap.size w.heap.size (Lib.byteCells (keyL (l.take k))) (⟨(Lib.decDigits l[k]).toArray⟩ ++ ⟨#[32]⟩) wr HI.out (by
    rw [Lib.byteCells_length]
    have : (⟨(Lib.decDigits l[k]).toArray⟩ ++ ⟨#[32]⟩ : ByteArray).size = (Lib.decDigits l[k]).length + 1 := by simp [ByteArray.size]
    omega) HB.out.size)
   go_wp2_with fail
   refine CI.out.mono ?_
   rintro e w1 ⟨rfl, rfl⟩
   go_wp2_with fail
   refine CW.out.mono ?_
   rintro e w2 ⟨rfl, hI2, hb2⟩
   go_wp2_with fail
   go_roundw
   case rel =>
    refine ⟨k + 1, by omega, by go_num, HB.out.trans hb2, ?_⟩
    have e1 : Lib.byteCells (keyL (l.take (k + 1))) = Lib.byteCells (keyL (l.take k)) ++ Lib.strCells (⟨(Lib.decDigits l[k]).toArray⟩ ++ ⟨#[32]⟩) := by
     rw [List.take_succ_eq_append_getElem hlt, keyL_snoc, Lib.byteCells_append, Lib.strCells_eq]; simp
    rw [e1]; exact hI2
   case measure => simp [intOf]; omega
  ·have hkl : k = l.length := by omega
   subst hkl
   have hI3 : IsB w.heap.size w.heap.size (Lib.byteCells (keyL l)) wr := by have := HI.out; rwa [List.take_length] at this
   have CT := Lib.hid (Any.Builder_String_any_k bstLays bExtra w.heap.size w.heap.size (keyL l) wr hI3 HB.out.size)
   go_wp2_with fail
   refine CT.out.mono ?_
   rintro e w1 ⟨rfl, _, hb2, _⟩
   go_wp2_with fail
   go_ret
   exact ⟨rfl, HB.out.trans hb2⟩
theorem key_c (l : List Nat) (hs : ∀ n ∈ l, n < 100) (hl : l.length ≤ 1000000) : Call1 Tryd.prog 28 [.slc 1 (encN l) l.length] (.v (.string (keyB l))) :=
 .of_ret (by kernel_rfl) (by simp only [wfL, AV.wf, wf_encNN, Bool.and_self]) (fun D nu w vargs hra => by
  obtain ⟨x, rfl, hx⟩ := ras_one hra
  exact key_any l hs hl x w (RA.rdSl hx (fun x _ cs hc => rls_vals (vs := [.int .i64 (x : Nat)]) hc)))
/-! ### strconv.Itoa at any number, by the laid table -/
theorem itoa_c (n : Nat) (h : n < 1000000) : Call1 Tryd.prog 47 [.v (.int .i64 (n : Nat))] (.v (.string ⟨(Lib.decDigits n).toArray⟩)) := by
 refine ⟨⟨rfl, rfl⟩, by kernel_rfl, fun D nu w vargs hro hra => ?_⟩
 obtain ⟨x, rfl, hx⟩ := ras_one hra
 obtain rfl := hx.v_eq
 obtain ⟨⟨t, hb⟩, _⟩ := hro.gl 1 _ _ rfl
 have htab : Lib.TabIs Tryd.prog w "internal/strconv.uint64pow10" .u64 Lib.pow10Tab := by
  have hg : Tryd.prog.globalNamed "internal/strconv.uint64pow10" = some 1 := by kernel_rfl
  simp only [Lib.TabIs, World.var?, hg, Option.bind_some, hb]
  rfl
 refine (Any.strconv_Itoa itoaLays n (by omega) (by omega) w htab).mono ?_
 rintro e w' ⟨rfl, k, os, rfl⟩
 have e1 : Lib.itoa (n : Int) = Lib.decDigits n := by rw [Lib.itoa, if_neg (by omega)]; rfl
 rw [e1]
 have hbw : Below w.heap.size w (Go.Sort.grow (w.drewN k) os) := Go.Lib.below_grow _ w (Nat.le_refl _) k os
 exact ⟨_, nu, [], _, rfl, mono_below hbw, hro.below hbw, .v _, rfl, rfl⟩
end Go.Proofs.YtfflpdekojlnmaaDoor
