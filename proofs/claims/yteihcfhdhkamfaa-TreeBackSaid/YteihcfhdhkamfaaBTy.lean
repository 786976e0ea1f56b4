/- Facts on the types of the program, each by the kernel (printed by a program of ours). -/
import Derived.KernelRfl
import Derived.Test.YteihcfhdhkamfaaProg
import Derived.Test.YteihcfhdhkamfaaBAbsJ
namespace Go.Proofs.Yteihcfhdhkamfaa

@[go_sem] theorem und3 : Try.prog.underlying 3 = some (.int .i64) := by kernel_rfl
@[go_sem] theorem tAgg3 : tAgg Try.prog 3 = some (false) := by kernel_rfl
@[go_sem] theorem tSize3 : tSize Try.prog 3 = some (1) := by kernel_rfl
@[go_sem] theorem und5 : Try.prog.underlying 5 = some (.int .u8) := by kernel_rfl
@[go_sem] theorem tZero5 : tZero Try.prog 5 = some ([.v (.int .u8 0)]) := by kernel_rfl
@[go_sem] theorem und9 : Try.prog.underlying 9 = some (.string) := by kernel_rfl
@[go_sem] theorem tAgg9 : tAgg Try.prog 9 = some (false) := by kernel_rfl
@[go_sem] theorem tSize9 : tSize Try.prog 9 = some (1) := by kernel_rfl
@[go_sem] theorem tZero9 : tZero Try.prog 9 = some ([.v (.string ⟨#[]⟩)]) := by kernel_rfl
@[go_sem] theorem und22 : Try.prog.underlying 22 = some (.slice 61) := by kernel_rfl
@[go_sem] theorem tAgg22 : tAgg Try.prog 22 = some (false) := by kernel_rfl
@[go_sem] theorem tSize22 : tSize Try.prog 22 = some (1) := by kernel_rfl
@[go_sem] theorem tApp22 : tApp Try.prog 22 = some (61, 8, 120) := by kernel_rfl
@[go_sem] theorem und23 : Try.prog.underlying 23 = some (.slice 55) := by kernel_rfl
@[go_sem] theorem tAgg23 : tAgg Try.prog 23 = some (false) := by kernel_rfl
@[go_sem] theorem tSize23 : tSize Try.prog 23 = some (1) := by kernel_rfl
@[go_sem] theorem tApp23 : tApp Try.prog 23 = some (55, 13, 152) := by kernel_rfl
@[go_sem] theorem und24 : Try.prog.underlying 24 = some (.slice 32) := by kernel_rfl
@[go_sem] theorem tAgg24 : tAgg Try.prog 24 = some (false) := by kernel_rfl
@[go_sem] theorem tSize24 : tSize Try.prog 24 = some (1) := by kernel_rfl
@[go_sem] theorem tApp24 : tApp Try.prog 24 = some (32, 6, 72) := by kernel_rfl
@[go_sem] theorem tAgg26 : tAgg Try.prog 26 = some (true) := by kernel_rfl
@[go_sem] theorem tSize26 : tSize Try.prog 26 = some (5) := by kernel_rfl
@[go_sem] theorem tZero26 : tZero Try.prog 26 = some ([.v (.slice none 0 0), .v (.slice none 0 0), .v (.slice none 0 0), .v (.int .i64 0), .v (.int .i64 0)]) := by kernel_rfl
@[go_sem] theorem tFld26f0 : tFld Try.prog 26 0 = some (0) := by kernel_rfl
@[go_sem] theorem tFld26f1 : tFld Try.prog 26 1 = some (1) := by kernel_rfl
@[go_sem] theorem tFld26f2 : tFld Try.prog 26 2 = some (2) := by kernel_rfl
@[go_sem] theorem tFld26f3 : tFld Try.prog 26 3 = some (3) := by kernel_rfl
@[go_sem] theorem tFld26f4 : tFld Try.prog 26 4 = some (4) := by kernel_rfl
@[go_sem] theorem tPl26 : tPl Try.prog 26 = some ([(0, 1), (1, 1), (2, 1), (3, 1), (4, 1)], [.v (.slice none 0 0), .v (.slice none 0 0), .v (.slice none 0 0), .v (.int .i64 0), .v (.int .i64 0)]) := by kernel_rfl
@[go_sem] theorem und27 : Try.prog.underlying 27 = some (.int .i64) := by kernel_rfl
@[go_sem] theorem tAgg27 : tAgg Try.prog 27 = some (false) := by kernel_rfl
@[go_sem] theorem tSize27 : tSize Try.prog 27 = some (1) := by kernel_rfl
@[go_sem] theorem tAgg32 : tAgg Try.prog 32 = some (true) := by kernel_rfl
@[go_sem] theorem tSize32 : tSize Try.prog 32 = some (6) := by kernel_rfl
@[go_sem] theorem tZero32 : tZero Try.prog 32 = some ([.v (.int .i64 0), .v (.string ⟨#[]⟩), .v (.string ⟨#[]⟩), .v (.int .i64 0), .v (.int .i64 0), .v (.string ⟨#[]⟩)]) := by kernel_rfl
@[go_sem] theorem tFld32f0 : tFld Try.prog 32 0 = some (0) := by kernel_rfl
@[go_sem] theorem tFld32f1 : tFld Try.prog 32 1 = some (1) := by kernel_rfl
@[go_sem] theorem und40 : Try.prog.underlying 40 = some (.slice 9) := by kernel_rfl
@[go_sem] theorem tAgg40 : tAgg Try.prog 40 = some (false) := by kernel_rfl
@[go_sem] theorem tSize40 : tSize Try.prog 40 = some (1) := by kernel_rfl
@[go_sem] theorem tZero40 : tZero Try.prog 40 = some ([.v (.slice none 0 0)]) := by kernel_rfl
@[go_sem] theorem tApp40 : tApp Try.prog 40 = some (9, 1, 16) := by kernel_rfl
@[go_sem] theorem tSize55 : tSize Try.prog 55 = some (13) := by kernel_rfl
@[go_sem] theorem tZero55 : tZero Try.prog 55 = some ([.v (.int .i64 0), .v (.int .i64 0), .v (.string ⟨#[]⟩), .v (.string ⟨#[]⟩), .v (.int .i64 0), .v (.int .i64 0), .v (.string ⟨#[]⟩), .v (.int .i64 0), .v (.string ⟨#[]⟩), .v (.string ⟨#[]⟩), .v (.int .i64 0), .v (.int .i64 0), .v (.string ⟨#[]⟩)]) := by kernel_rfl
@[go_sem] theorem tFld55f1 : tFld Try.prog 55 1 = some (1) := by kernel_rfl
@[go_sem] theorem tFld55f2 : tFld Try.prog 55 2 = some (7) := by kernel_rfl
@[go_sem] theorem und57 : Try.prog.underlying 57 = some (.slice 59) := by kernel_rfl
@[go_sem] theorem tAgg57 : tAgg Try.prog 57 = some (false) := by kernel_rfl
@[go_sem] theorem tSize57 : tSize Try.prog 57 = some (1) := by kernel_rfl
@[go_sem] theorem tApp57 : tApp Try.prog 57 = some (59, 3, 48) := by kernel_rfl
@[go_sem] theorem tAgg59 : tAgg Try.prog 59 = some (true) := by kernel_rfl
@[go_sem] theorem tSize59 : tSize Try.prog 59 = some (3) := by kernel_rfl
@[go_sem] theorem tZero59 : tZero Try.prog 59 = some ([.v (.int .i64 0), .v (.string ⟨#[]⟩), .v (.slice none 0 0)]) := by kernel_rfl
@[go_sem] theorem tFld59f2 : tFld Try.prog 59 2 = some (2) := by kernel_rfl
@[go_sem] theorem tSize61 : tSize Try.prog 61 = some (8) := by kernel_rfl
@[go_sem] theorem tZero61 : tZero Try.prog 61 = some ([.v (.string ⟨#[]⟩), .v (.string ⟨#[]⟩), .v (.bool false), .v (.string ⟨#[]⟩), .v (.string ⟨#[]⟩), .v (.int .i64 0), .v (.string ⟨#[]⟩), .v (.slice none 0 0)]) := by kernel_rfl
@[go_sem] theorem tFld61f0 : tFld Try.prog 61 0 = some (0) := by kernel_rfl
@[go_sem] theorem tFld61f1 : tFld Try.prog 61 1 = some (1) := by kernel_rfl
@[go_sem] theorem tFld61f4 : tFld Try.prog 61 4 = some (4) := by kernel_rfl
@[go_sem] theorem tFld61f5 : tFld Try.prog 61 5 = some (5) := by kernel_rfl
@[go_sem] theorem und69 : Try.prog.underlying 69 = some (.slice 5) := by kernel_rfl
@[go_sem] theorem tApp69 : tApp Try.prog 69 = some (5, 1, 1) := by kernel_rfl
@[go_sem] theorem tAgg104 : tAgg Try.prog 104 = some (false) := by kernel_rfl
@[go_sem] theorem tSize104 : tSize Try.prog 104 = some (1) := by kernel_rfl
@[go_sem] theorem tZero104 : tZero Try.prog 104 = some ([.v (.nilFunc)]) := by kernel_rfl
end Go.Proofs.Yteihcfhdhkamfaa
