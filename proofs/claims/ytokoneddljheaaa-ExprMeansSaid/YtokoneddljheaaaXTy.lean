/- Facts on the types of the program, each by the kernel (printed by a program of ours). -/
import Derived.KernelRfl
import Derived.Test.YtokoneddljheaaaProg
import Derived.Test.YtokoneddljheaaaXAbsJ
namespace Go.Proofs.Ytokoneddljheaaa

@[go_sem] theorem und3 : Try.prog.underlying 3 = some (.int .i64) := by kernel_rfl
@[go_sem] theorem tAgg3 : tAgg Try.prog 3 = some (false) := by kernel_rfl
@[go_sem] theorem tSize3 : tSize Try.prog 3 = some (1) := by kernel_rfl
@[go_sem] theorem tZero3 : tZero Try.prog 3 = some ([.v (.int .i64 0)]) := by kernel_rfl
@[go_sem] theorem und4 : Try.prog.underlying 4 = some (.bool) := by kernel_rfl
@[go_sem] theorem tAgg9 : tAgg Try.prog 9 = some (false) := by kernel_rfl
@[go_sem] theorem tSize9 : tSize Try.prog 9 = some (1) := by kernel_rfl
@[go_sem] theorem tZero9 : tZero Try.prog 9 = some ([.v (.string ⟨#[]⟩)]) := by kernel_rfl
@[go_sem] theorem tAgg36 : tAgg Try.prog 36 = some (false) := by kernel_rfl
@[go_sem] theorem tSize36 : tSize Try.prog 36 = some (1) := by kernel_rfl
@[go_sem] theorem und37 : Try.prog.underlying 37 = some (.slice 39) := by kernel_rfl
@[go_sem] theorem tAgg37 : tAgg Try.prog 37 = some (false) := by kernel_rfl
@[go_sem] theorem tSize37 : tSize Try.prog 37 = some (1) := by kernel_rfl
@[go_sem] theorem tApp37 : tApp Try.prog 37 = some (39, 3, 48) := by kernel_rfl
@[go_sem] theorem tAgg39 : tAgg Try.prog 39 = some (true) := by kernel_rfl
@[go_sem] theorem tSize39 : tSize Try.prog 39 = some (3) := by kernel_rfl
@[go_sem] theorem tZero39 : tZero Try.prog 39 = some ([.v (.int .i64 0), .v (.string ⟨#[]⟩), .v (.slice none 0 0)]) := by kernel_rfl
@[go_sem] theorem tFld39f0 : tFld Try.prog 39 0 = some (0) := by kernel_rfl
@[go_sem] theorem tFld39f1 : tFld Try.prog 39 1 = some (1) := by kernel_rfl
@[go_sem] theorem tFld39f2 : tFld Try.prog 39 2 = some (2) := by kernel_rfl
@[go_sem] theorem tPl39 : tPl Try.prog 39 = some ([(0, 1), (1, 1), (2, 1)], [.v (.int .i64 0), .v (.string ⟨#[]⟩), .v (.slice none 0 0)]) := by kernel_rfl
@[go_sem] theorem und43 : Try.prog.underlying 43 = some (.slice 9) := by kernel_rfl
@[go_sem] theorem tAgg43 : tAgg Try.prog 43 = some (false) := by kernel_rfl
@[go_sem] theorem tSize43 : tSize Try.prog 43 = some (1) := by kernel_rfl
@[go_sem] theorem tSl43 : tSl Try.prog 43 = some (1) := by kernel_rfl
@[go_sem] theorem tApp43 : tApp Try.prog 43 = some (9, 1, 16) := by kernel_rfl
@[go_sem] theorem und90 : Try.prog.underlying 90 = some (.slice 3) := by kernel_rfl
@[go_sem] theorem tAgg90 : tAgg Try.prog 90 = some (false) := by kernel_rfl
@[go_sem] theorem tSize90 : tSize Try.prog 90 = some (1) := by kernel_rfl
@[go_sem] theorem tZero90 : tZero Try.prog 90 = some ([.v (.slice none 0 0)]) := by kernel_rfl
@[go_sem] theorem tApp90 : tApp Try.prog 90 = some (3, 1, 8) := by kernel_rfl
@[go_sem] theorem tAgg92 : tAgg Try.prog 92 = some (true) := by kernel_rfl
@[go_sem] theorem tSize92 : tSize Try.prog 92 = some (1) := by kernel_rfl
@[go_sem] theorem tFld92f0 : tFld Try.prog 92 0 = some (0) := by kernel_rfl
@[go_sem] theorem tPl92 : tPl Try.prog 92 = some ([(0, 1)], [.v (.slice none 0 0)]) := by kernel_rfl
@[go_sem] theorem und117 : Try.prog.underlying 117 = some (.slice 90) := by kernel_rfl
@[go_sem] theorem tApp117 : tApp Try.prog 117 = some (90, 1, 24) := by kernel_rfl
end Go.Proofs.Ytokoneddljheaaa
