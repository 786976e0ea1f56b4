/- Facts on the types of the program, each by the kernel (printed by a program of ours). -/
import Derived.KernelRfl
import Derived.Test.YtokoneddljheaaaProg
import Derived.Test.YtokoneddljheaaaAAbsJ
namespace Go.Proofs.Ytokoneddljheaaa

@[go_sem] theorem und3 : Try.prog.underlying 3 = some (.int .i64) := by kernel_rfl
@[go_sem] theorem tAgg3 : tAgg Try.prog 3 = some (false) := by kernel_rfl
@[go_sem] theorem tSize3 : tSize Try.prog 3 = some (1) := by kernel_rfl
@[go_sem] theorem tZero3 : tZero Try.prog 3 = some ([.v (.int .i64 0)]) := by kernel_rfl
@[go_sem] theorem und4 : Try.prog.underlying 4 = some (.bool) := by kernel_rfl
@[go_sem] theorem tAgg4 : tAgg Try.prog 4 = some (false) := by kernel_rfl
@[go_sem] theorem tSize4 : tSize Try.prog 4 = some (1) := by kernel_rfl
@[go_sem] theorem und9 : Try.prog.underlying 9 = some (.string) := by kernel_rfl
@[go_sem] theorem tAgg9 : tAgg Try.prog 9 = some (false) := by kernel_rfl
@[go_sem] theorem tSize9 : tSize Try.prog 9 = some (1) := by kernel_rfl
@[go_sem] theorem tZero9 : tZero Try.prog 9 = some ([.v (.string ⟨#[]⟩)]) := by kernel_rfl
@[go_sem] theorem und22 : Try.prog.underlying 22 = some (.slice 41) := by kernel_rfl
@[go_sem] theorem tAgg22 : tAgg Try.prog 22 = some (false) := by kernel_rfl
@[go_sem] theorem tSize22 : tSize Try.prog 22 = some (1) := by kernel_rfl
@[go_sem] theorem tSl22 : tSl Try.prog 22 = some (8) := by kernel_rfl
@[go_sem] theorem tApp22 : tApp Try.prog 22 = some (41, 8, 120) := by kernel_rfl
@[go_sem] theorem und23 : Try.prog.underlying 23 = some (.slice 77) := by kernel_rfl
@[go_sem] theorem tAgg23 : tAgg Try.prog 23 = some (false) := by kernel_rfl
@[go_sem] theorem tSize23 : tSize Try.prog 23 = some (1) := by kernel_rfl
@[go_sem] theorem und24 : Try.prog.underlying 24 = some (.slice 74) := by kernel_rfl
@[go_sem] theorem tAgg24 : tAgg Try.prog 24 = some (false) := by kernel_rfl
@[go_sem] theorem tSize24 : tSize Try.prog 24 = some (1) := by kernel_rfl
@[go_sem] theorem tApp24 : tApp Try.prog 24 = some (74, 6, 72) := by kernel_rfl
@[go_sem] theorem tAgg26 : tAgg Try.prog 26 = some (true) := by kernel_rfl
@[go_sem] theorem tSize26 : tSize Try.prog 26 = some (5) := by kernel_rfl
@[go_sem] theorem tZero26 : tZero Try.prog 26 = some ([.v (.slice none 0 0), .v (.slice none 0 0), .v (.slice none 0 0), .v (.int .i64 0), .v (.int .i64 0)]) := by kernel_rfl
@[go_sem] theorem tFld26f0 : tFld Try.prog 26 0 = some (0) := by kernel_rfl
@[go_sem] theorem tFld26f1 : tFld Try.prog 26 1 = some (1) := by kernel_rfl
@[go_sem] theorem tFld26f2 : tFld Try.prog 26 2 = some (2) := by kernel_rfl
@[go_sem] theorem tPl26 : tPl Try.prog 26 = some ([(0, 1), (1, 1), (2, 1), (3, 1), (4, 1)], [.v (.slice none 0 0), .v (.slice none 0 0), .v (.slice none 0 0), .v (.int .i64 0), .v (.int .i64 0)]) := by kernel_rfl
@[go_sem] theorem und29 : Try.prog.underlying 29 = some (.slice 3) := by kernel_rfl
@[go_sem] theorem tAgg29 : tAgg Try.prog 29 = some (false) := by kernel_rfl
@[go_sem] theorem tSize29 : tSize Try.prog 29 = some (1) := by kernel_rfl
@[go_sem] theorem tSl29 : tSl Try.prog 29 = some (1) := by kernel_rfl
@[go_sem] theorem tApp29 : tApp Try.prog 29 = some (3, 1, 8) := by kernel_rfl
@[go_sem] theorem tAgg30 : tAgg Try.prog 30 = some (false) := by kernel_rfl
@[go_sem] theorem tSize30 : tSize Try.prog 30 = some (1) := by kernel_rfl
@[go_sem] theorem tZero30 : tZero Try.prog 30 = some ([.v (.int .i64 0)]) := by kernel_rfl
@[go_sem] theorem und37 : Try.prog.underlying 37 = some (.slice 39) := by kernel_rfl
@[go_sem] theorem tAgg37 : tAgg Try.prog 37 = some (false) := by kernel_rfl
@[go_sem] theorem tSize37 : tSize Try.prog 37 = some (1) := by kernel_rfl
@[go_sem] theorem tAgg39 : tAgg Try.prog 39 = some (true) := by kernel_rfl
@[go_sem] theorem tSize39 : tSize Try.prog 39 = some (3) := by kernel_rfl
@[go_sem] theorem tZero39 : tZero Try.prog 39 = some ([.v (.int .i64 0), .v (.string ⟨#[]⟩), .v (.slice none 0 0)]) := by kernel_rfl
@[go_sem] theorem tFld39f2 : tFld Try.prog 39 2 = some (2) := by kernel_rfl
@[go_sem] theorem tPl39 : tPl Try.prog 39 = some ([(0, 1), (1, 1), (2, 1)], [.v (.int .i64 0), .v (.string ⟨#[]⟩), .v (.slice none 0 0)]) := by kernel_rfl
@[go_sem] theorem tAgg41 : tAgg Try.prog 41 = some (true) := by kernel_rfl
@[go_sem] theorem tSize41 : tSize Try.prog 41 = some (8) := by kernel_rfl
@[go_sem] theorem tZero41 : tZero Try.prog 41 = some ([.v (.string ⟨#[]⟩), .v (.string ⟨#[]⟩), .v (.bool false), .v (.string ⟨#[]⟩), .v (.string ⟨#[]⟩), .v (.int .i64 0), .v (.string ⟨#[]⟩), .v (.slice none 0 0)]) := by kernel_rfl
@[go_sem] theorem tFld41f0 : tFld Try.prog 41 0 = some (0) := by kernel_rfl
@[go_sem] theorem tFld41f1 : tFld Try.prog 41 1 = some (1) := by kernel_rfl
@[go_sem] theorem tFld41f2 : tFld Try.prog 41 2 = some (2) := by kernel_rfl
@[go_sem] theorem tFld41f3 : tFld Try.prog 41 3 = some (3) := by kernel_rfl
@[go_sem] theorem tFld41f4 : tFld Try.prog 41 4 = some (4) := by kernel_rfl
@[go_sem] theorem tFld41f5 : tFld Try.prog 41 5 = some (5) := by kernel_rfl
@[go_sem] theorem tPl41 : tPl Try.prog 41 = some ([(0, 1), (1, 1), (2, 1), (3, 1), (4, 1), (5, 3)], [.v (.string ⟨#[]⟩), .v (.string ⟨#[]⟩), .v (.bool false), .v (.string ⟨#[]⟩), .v (.string ⟨#[]⟩), .v (.int .i64 0), .v (.string ⟨#[]⟩), .v (.slice none 0 0)]) := by kernel_rfl
@[go_sem] theorem und43 : Try.prog.underlying 43 = some (.slice 9) := by kernel_rfl
@[go_sem] theorem tAgg43 : tAgg Try.prog 43 = some (false) := by kernel_rfl
@[go_sem] theorem tSize43 : tSize Try.prog 43 = some (1) := by kernel_rfl
@[go_sem] theorem tZero43 : tZero Try.prog 43 = some ([.v (.slice none 0 0)]) := by kernel_rfl
@[go_sem] theorem tApp43 : tApp Try.prog 43 = some (9, 1, 16) := by kernel_rfl
@[go_sem] theorem isFun46 : isFun Try.prog 46 = true := by kernel_rfl
@[go_sem] theorem und63 : Try.prog.underlying 63 = some (.map 9 69) := by kernel_rfl
@[go_sem] theorem tAgg63 : tAgg Try.prog 63 = some (false) := by kernel_rfl
@[go_sem] theorem tSize63 : tSize Try.prog 63 = some (1) := by kernel_rfl
@[go_sem] theorem tZero63 : tZero Try.prog 63 = some ([.v (.map none)]) := by kernel_rfl
@[go_sem] theorem tAgg69 : tAgg Try.prog 69 = some (false) := by kernel_rfl
@[go_sem] theorem tSize69 : tSize Try.prog 69 = some (1) := by kernel_rfl
@[go_sem] theorem aZero69 : aZero Try.prog 69 = some (.v (.int .i64 0)) := by kernel_rfl
@[go_sem] theorem und70 : Try.prog.underlying 70 = some (.int .i64) := by kernel_rfl
@[go_sem] theorem tAgg70 : tAgg Try.prog 70 = some (false) := by kernel_rfl
@[go_sem] theorem tSize70 : tSize Try.prog 70 = some (1) := by kernel_rfl
@[go_sem] theorem tFld72f0 : tFld Try.prog 72 0 = some (0) := by kernel_rfl
@[go_sem] theorem tAgg74 : tAgg Try.prog 74 = some (true) := by kernel_rfl
@[go_sem] theorem tSize74 : tSize Try.prog 74 = some (6) := by kernel_rfl
@[go_sem] theorem tZero74 : tZero Try.prog 74 = some ([.v (.int .i64 0), .v (.string ⟨#[]⟩), .v (.string ⟨#[]⟩), .v (.int .i64 0), .v (.int .i64 0), .v (.string ⟨#[]⟩)]) := by kernel_rfl
@[go_sem] theorem tFld74f0 : tFld Try.prog 74 0 = some (0) := by kernel_rfl
@[go_sem] theorem tFld74f1 : tFld Try.prog 74 1 = some (1) := by kernel_rfl
@[go_sem] theorem tFld74f3 : tFld Try.prog 74 3 = some (3) := by kernel_rfl
@[go_sem] theorem tPl74 : tPl Try.prog 74 = some ([(0, 1), (1, 1), (2, 1), (3, 3)], [.v (.int .i64 0), .v (.string ⟨#[]⟩), .v (.string ⟨#[]⟩), .v (.int .i64 0), .v (.int .i64 0), .v (.string ⟨#[]⟩)]) := by kernel_rfl
@[go_sem] theorem tAgg77 : tAgg Try.prog 77 = some (true) := by kernel_rfl
@[go_sem] theorem tSize77 : tSize Try.prog 77 = some (13) := by kernel_rfl
@[go_sem] theorem tZero77 : tZero Try.prog 77 = some ([.v (.int .i64 0), .v (.int .i64 0), .v (.string ⟨#[]⟩), .v (.string ⟨#[]⟩), .v (.int .i64 0), .v (.int .i64 0), .v (.string ⟨#[]⟩), .v (.int .i64 0), .v (.string ⟨#[]⟩), .v (.string ⟨#[]⟩), .v (.int .i64 0), .v (.int .i64 0), .v (.string ⟨#[]⟩)]) := by kernel_rfl
@[go_sem] theorem tFld77f1 : tFld Try.prog 77 1 = some (1) := by kernel_rfl
@[go_sem] theorem tFld77f2 : tFld Try.prog 77 2 = some (7) := by kernel_rfl
@[go_sem] theorem und82 : Try.prog.underlying 82 = some (.int .u64) := by kernel_rfl
@[go_sem] theorem und85 : Try.prog.underlying 85 = some (.array 2 9) := by kernel_rfl
@[go_sem] theorem tPl85 : tPl Try.prog 85 = some ([(0, 1), (1, 1)], [.v (.string ⟨#[]⟩), .v (.string ⟨#[]⟩)]) := by kernel_rfl
@[go_sem] theorem tAgg94 : tAgg Try.prog 94 = some (false) := by kernel_rfl
@[go_sem] theorem tSize94 : tSize Try.prog 94 = some (1) := by kernel_rfl
@[go_sem] theorem tZero94 : tZero Try.prog 94 = some ([.v (.nilFunc)]) := by kernel_rfl
end Go.Proofs.Ytokoneddljheaaa
