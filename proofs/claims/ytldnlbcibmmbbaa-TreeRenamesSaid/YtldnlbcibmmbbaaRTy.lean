/- Rows: what all of them share: a law's contract made a claim's; readings of arguments. -/
import Derived.Test.YtldnlbcibmmbbaaRows
import Derived.Test.YtldnlbcibmmbbaaRAbsN
import Derived.Test.YtldnlbcibmmbbaaREnc
import Derived.Test.YtldnlbcibmmbbaaROpen
import Derived.WalkKit
import Derived.ProofKit
import Derived.OpenShut
import Derived.KernelRfl
import Derived.Test.YtldnlbcibmmbbaaProg
import Derived.Test.YtldnlbcibmmbbaaRAbsJ
namespace Go.Proofs.Ytldnlbcibmmbbaa
open Go.ChangeShapes Go.WideShapes Go.ChangeAt Go.RowKit

theorem Call1.to_ret {P : Program} {f : FuncId} {args : List AV} {v : Value} (h : Call1 P f args (.v v)) {w : World} {vargs : Array Value} (hr : RAs (fun _ => True) (fun _ _ => Go.undef) [] w args vargs) (hG : GlobOk (fun _ => True) (fun _ _ => Go.undef) [] w := by exact fun g T cs hg => by cases hg) :
  Calls P f vargs w (Ret w v) := by
 refine (h.2.2 _ _ w vargs (RO.nil _ _ _ (fun _ _ => trivial) hG) hr).mono fun e w' hf => ?_
 obtain ⟨x, nu', o', r, rfl, hm, _, hx, rfl, rfl⟩ := hf
 have e1 := hx.v_eq
 subst e1
 exact ⟨rfl, hm.os, hm.tape, hm.output, hm.size, fun b hb => (hm.keep b hb (owned_nil _ _)).1⟩

section
variable {H : Type} {enc : TypeId × Value → H} {w : World}
end
end Go.Proofs.Ytldnlbcibmmbbaa

set_option linter.unusedSimpArgs false
set_option linter.unusedVariables false
namespace Go.Proofs.Ytldnlbcibmmbbaa
open Go.ChangeShapes Go.WideShapes Go.ChangeAt Go.RowKit

section
variable {H : Type} {enc : TypeId × Value → H} {w : World}
theorem uTexts : Try.prog.underlying 27 = some (.slice 9) := by kernel_rfl
theorem cTexts : Try.prog.cellsOf 9 = 1 := by kernel_rfl
theorem bTexts : 0 < Try.prog.bytesOf 9 := of_decide_eq_true (by kernel_rfl)
theorem trod_strs {a : Option Addr} {len cap : Nat} {d : DataW H} {ps : List MemPlace} (h : DataW.Trod enc Try.prog w 0 (fun _ => true) true 27 (.slice a len cap) d ps) (hw : ∀ k ∈ d.weights Try.prog 27, k ≤ reachBytes) :
  ∃ (l : List ByteArray), RdStrs w l (.slice a len cap) ∧ (∀ s, s ∈ l → okT s) ∧ l.length ≤ 140737488355328 := by
 obtain ⟨n, h⟩ := h
 have ht : Td enc Try.prog w n 27 [.slice a len cap] := ⟨_, h, hw⟩
 obtain ⟨xs, h2, h3, h4⟩ := td_row uTexts cTexts (by omega) bTexts ht (rd := RdStr) (okx := okT) (fun m' cs' hm hx => by
  obtain ⟨s, e1, e2⟩ := td_str uStr hx
  exact ⟨s, e1, e2⟩)
 exact ⟨xs, h2, h3, h4⟩
end
end Go.Proofs.Ytldnlbcibmmbbaa

namespace Go.Proofs.Ytldnlbcibmmbbaa

@[go_sem] theorem und3 : Try.prog.underlying 3 = some (.int .i64) := by kernel_rfl
@[go_sem] theorem tAgg3 : tAgg Try.prog 3 = some (false) := by kernel_rfl
@[go_sem] theorem tSize3 : tSize Try.prog 3 = some (1) := by kernel_rfl
@[go_sem] theorem und4 : Try.prog.underlying 4 = some (.bool) := by kernel_rfl
@[go_sem] theorem tAgg4 : tAgg Try.prog 4 = some (false) := by kernel_rfl
@[go_sem] theorem tSize4 : tSize Try.prog 4 = some (1) := by kernel_rfl
@[go_sem] theorem und5 : Try.prog.underlying 5 = some (.int .u8) := by kernel_rfl
@[go_sem] theorem tZero5 : tZero Try.prog 5 = some ([.v (.int .u8 0)]) := by kernel_rfl
@[go_sem] theorem und9 : Try.prog.underlying 9 = some (.string) := by kernel_rfl
@[go_sem] theorem tAgg9 : tAgg Try.prog 9 = some (false) := by kernel_rfl
@[go_sem] theorem tSize9 : tSize Try.prog 9 = some (1) := by kernel_rfl
@[go_sem] theorem tZero9 : tZero Try.prog 9 = some ([.v (.string ⟨#[]⟩)]) := by kernel_rfl
@[go_sem] theorem und22 : Try.prog.underlying 22 = some (.slice 45) := by kernel_rfl
@[go_sem] theorem tAgg22 : tAgg Try.prog 22 = some (false) := by kernel_rfl
@[go_sem] theorem tSize22 : tSize Try.prog 22 = some (1) := by kernel_rfl
@[go_sem] theorem tSl22 : tSl Try.prog 22 = some (8) := by kernel_rfl
@[go_sem] theorem tApp22 : tApp Try.prog 22 = some (45, 8, 120) := by kernel_rfl
@[go_sem] theorem und23 : Try.prog.underlying 23 = some (.slice 71) := by kernel_rfl
@[go_sem] theorem tAgg23 : tAgg Try.prog 23 = some (false) := by kernel_rfl
@[go_sem] theorem tSize23 : tSize Try.prog 23 = some (1) := by kernel_rfl
@[go_sem] theorem tSl23 : tSl Try.prog 23 = some (13) := by kernel_rfl
@[go_sem] theorem tApp23 : tApp Try.prog 23 = some (71, 13, 152) := by kernel_rfl
@[go_sem] theorem und24 : Try.prog.underlying 24 = some (.slice 64) := by kernel_rfl
@[go_sem] theorem tAgg24 : tAgg Try.prog 24 = some (false) := by kernel_rfl
@[go_sem] theorem tSize24 : tSize Try.prog 24 = some (1) := by kernel_rfl
@[go_sem] theorem tSl24 : tSl Try.prog 24 = some (6) := by kernel_rfl
@[go_sem] theorem tApp24 : tApp Try.prog 24 = some (64, 6, 72) := by kernel_rfl
@[go_sem] theorem tAgg26 : tAgg Try.prog 26 = some (true) := by kernel_rfl
@[go_sem] theorem tSize26 : tSize Try.prog 26 = some (5) := by kernel_rfl
@[go_sem] theorem tZero26 : tZero Try.prog 26 = some ([.v (.slice none 0 0), .v (.slice none 0 0), .v (.slice none 0 0), .v (.int .i64 0), .v (.int .i64 0)]) := by kernel_rfl
@[go_sem] theorem tFld26f0 : tFld Try.prog 26 0 = some (0) := by kernel_rfl
@[go_sem] theorem tFld26f1 : tFld Try.prog 26 1 = some (1) := by kernel_rfl
@[go_sem] theorem tFld26f2 : tFld Try.prog 26 2 = some (2) := by kernel_rfl
@[go_sem] theorem tFld26f3 : tFld Try.prog 26 3 = some (3) := by kernel_rfl
@[go_sem] theorem tFld26f4 : tFld Try.prog 26 4 = some (4) := by kernel_rfl
@[go_sem] theorem tPl26 : tPl Try.prog 26 = some ([(0, 1), (1, 1), (2, 1), (3, 1), (4, 1)], [.v (.slice none 0 0), .v (.slice none 0 0), .v (.slice none 0 0), .v (.int .i64 0), .v (.int .i64 0)]) := by kernel_rfl
@[go_sem] theorem und27 : Try.prog.underlying 27 = some (.slice 9) := by kernel_rfl
@[go_sem] theorem tAgg27 : tAgg Try.prog 27 = some (false) := by kernel_rfl
@[go_sem] theorem tSize27 : tSize Try.prog 27 = some (1) := by kernel_rfl
@[go_sem] theorem tZero27 : tZero Try.prog 27 = some ([.v (.slice none 0 0)]) := by kernel_rfl
@[go_sem] theorem tSl27 : tSl Try.prog 27 = some (1) := by kernel_rfl
@[go_sem] theorem tApp27 : tApp Try.prog 27 = some (9, 1, 16) := by kernel_rfl
@[go_sem] theorem tAgg40 : tAgg Try.prog 40 = some (false) := by kernel_rfl
@[go_sem] theorem tSize40 : tSize Try.prog 40 = some (1) := by kernel_rfl
@[go_sem] theorem und41 : Try.prog.underlying 41 = some (.slice 43) := by kernel_rfl
@[go_sem] theorem tAgg41 : tAgg Try.prog 41 = some (false) := by kernel_rfl
@[go_sem] theorem tSize41 : tSize Try.prog 41 = some (1) := by kernel_rfl
@[go_sem] theorem tSl41 : tSl Try.prog 41 = some (3) := by kernel_rfl
@[go_sem] theorem tApp41 : tApp Try.prog 41 = some (43, 3, 48) := by kernel_rfl
@[go_sem] theorem tAgg43 : tAgg Try.prog 43 = some (true) := by kernel_rfl
@[go_sem] theorem tSize43 : tSize Try.prog 43 = some (3) := by kernel_rfl
@[go_sem] theorem tZero43 : tZero Try.prog 43 = some ([.v (.int .i64 0), .v (.string ⟨#[]⟩), .v (.slice none 0 0)]) := by kernel_rfl
@[go_sem] theorem tFld43f0 : tFld Try.prog 43 0 = some (0) := by kernel_rfl
@[go_sem] theorem tFld43f1 : tFld Try.prog 43 1 = some (1) := by kernel_rfl
@[go_sem] theorem tFld43f2 : tFld Try.prog 43 2 = some (2) := by kernel_rfl
@[go_sem] theorem tPl43 : tPl Try.prog 43 = some ([(0, 1), (1, 1), (2, 1)], [.v (.int .i64 0), .v (.string ⟨#[]⟩), .v (.slice none 0 0)]) := by kernel_rfl
@[go_sem] theorem tAgg45 : tAgg Try.prog 45 = some (true) := by kernel_rfl
@[go_sem] theorem tSize45 : tSize Try.prog 45 = some (8) := by kernel_rfl
@[go_sem] theorem tZero45 : tZero Try.prog 45 = some ([.v (.string ⟨#[]⟩), .v (.string ⟨#[]⟩), .v (.bool false), .v (.string ⟨#[]⟩), .v (.string ⟨#[]⟩), .v (.int .i64 0), .v (.string ⟨#[]⟩), .v (.slice none 0 0)]) := by kernel_rfl
@[go_sem] theorem tFld45f0 : tFld Try.prog 45 0 = some (0) := by kernel_rfl
@[go_sem] theorem tFld45f1 : tFld Try.prog 45 1 = some (1) := by kernel_rfl
@[go_sem] theorem tFld45f2 : tFld Try.prog 45 2 = some (2) := by kernel_rfl
@[go_sem] theorem tFld45f3 : tFld Try.prog 45 3 = some (3) := by kernel_rfl
@[go_sem] theorem tFld45f4 : tFld Try.prog 45 4 = some (4) := by kernel_rfl
@[go_sem] theorem tFld45f5 : tFld Try.prog 45 5 = some (5) := by kernel_rfl
@[go_sem] theorem tPl45 : tPl Try.prog 45 = some ([(0, 1), (1, 1), (2, 1), (3, 1), (4, 1), (5, 3)], [.v (.string ⟨#[]⟩), .v (.string ⟨#[]⟩), .v (.bool false), .v (.string ⟨#[]⟩), .v (.string ⟨#[]⟩), .v (.int .i64 0), .v (.string ⟨#[]⟩), .v (.slice none 0 0)]) := by kernel_rfl
@[go_sem] theorem tAgg58 : tAgg Try.prog 58 = some (false) := by kernel_rfl
@[go_sem] theorem tSize58 : tSize Try.prog 58 = some (1) := by kernel_rfl
@[go_sem] theorem tZero58 : tZero Try.prog 58 = some ([.v (.nilFunc)]) := by kernel_rfl
@[go_sem] theorem und59 : Try.prog.underlying 59 = some (.int .i64) := by kernel_rfl
@[go_sem] theorem tAgg59 : tAgg Try.prog 59 = some (false) := by kernel_rfl
@[go_sem] theorem tSize59 : tSize Try.prog 59 = some (1) := by kernel_rfl
@[go_sem] theorem tPl62 : tPl Try.prog 62 = some ([(0, 1), (1, 1), (2, 1)], [.v (.int .i64 0), .v (.int .i64 0), .v (.string ⟨#[]⟩)]) := by kernel_rfl
@[go_sem] theorem tAgg64 : tAgg Try.prog 64 = some (true) := by kernel_rfl
@[go_sem] theorem tSize64 : tSize Try.prog 64 = some (6) := by kernel_rfl
@[go_sem] theorem tZero64 : tZero Try.prog 64 = some ([.v (.int .i64 0), .v (.string ⟨#[]⟩), .v (.string ⟨#[]⟩), .v (.int .i64 0), .v (.int .i64 0), .v (.string ⟨#[]⟩)]) := by kernel_rfl
@[go_sem] theorem tFld64f0 : tFld Try.prog 64 0 = some (0) := by kernel_rfl
@[go_sem] theorem tFld64f1 : tFld Try.prog 64 1 = some (1) := by kernel_rfl
@[go_sem] theorem tPl64 : tPl Try.prog 64 = some ([(0, 1), (1, 1), (2, 1), (3, 3)], [.v (.int .i64 0), .v (.string ⟨#[]⟩), .v (.string ⟨#[]⟩), .v (.int .i64 0), .v (.int .i64 0), .v (.string ⟨#[]⟩)]) := by kernel_rfl
@[go_sem] theorem tEqG64 : tEqG Try.prog 64 = some ([.i, .s, .s, .i, .i, .s]) := by kernel_rfl
@[go_sem] theorem tAgg69 : tAgg Try.prog 69 = some (false) := by kernel_rfl
@[go_sem] theorem tSize69 : tSize Try.prog 69 = some (1) := by kernel_rfl
@[go_sem] theorem tAgg71 : tAgg Try.prog 71 = some (true) := by kernel_rfl
@[go_sem] theorem tSize71 : tSize Try.prog 71 = some (13) := by kernel_rfl
@[go_sem] theorem tZero71 : tZero Try.prog 71 = some ([.v (.int .i64 0), .v (.int .i64 0), .v (.string ⟨#[]⟩), .v (.string ⟨#[]⟩), .v (.int .i64 0), .v (.int .i64 0), .v (.string ⟨#[]⟩), .v (.int .i64 0), .v (.string ⟨#[]⟩), .v (.string ⟨#[]⟩), .v (.int .i64 0), .v (.int .i64 0), .v (.string ⟨#[]⟩)]) := by kernel_rfl
@[go_sem] theorem tFld71f0 : tFld Try.prog 71 0 = some (0) := by kernel_rfl
@[go_sem] theorem tFld71f1 : tFld Try.prog 71 1 = some (1) := by kernel_rfl
@[go_sem] theorem tFld71f2 : tFld Try.prog 71 2 = some (7) := by kernel_rfl
@[go_sem] theorem tPl71 : tPl Try.prog 71 = some ([(0, 1), (1, 6), (7, 6)], [.v (.int .i64 0), .v (.int .i64 0), .v (.string ⟨#[]⟩), .v (.string ⟨#[]⟩), .v (.int .i64 0), .v (.int .i64 0), .v (.string ⟨#[]⟩), .v (.int .i64 0), .v (.string ⟨#[]⟩), .v (.string ⟨#[]⟩), .v (.int .i64 0), .v (.int .i64 0), .v (.string ⟨#[]⟩)]) := by kernel_rfl
@[go_sem] theorem tEqG71 : tEqG Try.prog 71 = some ([.i, .i, .s, .s, .i, .i, .s, .i, .s, .s, .i, .i, .s]) := by kernel_rfl
@[go_sem] theorem und97 : Try.prog.underlying 97 = some (.slice 5) := by kernel_rfl
@[go_sem] theorem tApp97 : tApp Try.prog 97 = some (5, 1, 1) := by kernel_rfl
end Go.Proofs.Ytldnlbcibmmbbaa
