/- Facts on the types of the program, each by the kernel (printed by a program of ours). -/
import Derived.KernelRfl
import Derived.Test.YteihcfhdhkamfaaProg
import Derived.Test.YteihcfhdhkamfaaAbsJ
namespace Go.Proofs.Yteihcfhdhkamfaa

@[go_sem] theorem tAgg1 : tAgg Try.prog 1 = some (false) := by kernel_rfl
@[go_sem] theorem tSize1 : tSize Try.prog 1 = some (1) := by kernel_rfl
@[go_sem] theorem tZero1 : tZero Try.prog 1 = some ([.v (.nilFunc)]) := by kernel_rfl
@[go_sem] theorem und2 : Try.prog.underlying 2 = some (.int .i64) := by kernel_rfl
@[go_sem] theorem tAgg2 : tAgg Try.prog 2 = some (false) := by kernel_rfl
@[go_sem] theorem tSize2 : tSize Try.prog 2 = some (1) := by kernel_rfl
@[go_sem] theorem tZero2 : tZero Try.prog 2 = some ([.v (.int .i64 0)]) := by kernel_rfl
@[go_sem] theorem und3 : Try.prog.underlying 3 = some (.int .i64) := by kernel_rfl
@[go_sem] theorem tAgg3 : tAgg Try.prog 3 = some (false) := by kernel_rfl
@[go_sem] theorem tSize3 : tSize Try.prog 3 = some (1) := by kernel_rfl
@[go_sem] theorem tZero3 : tZero Try.prog 3 = some ([.v (.int .i64 0)]) := by kernel_rfl
@[go_sem] theorem und4 : Try.prog.underlying 4 = some (.bool) := by kernel_rfl
@[go_sem] theorem tAgg4 : tAgg Try.prog 4 = some (false) := by kernel_rfl
@[go_sem] theorem tSize4 : tSize Try.prog 4 = some (1) := by kernel_rfl
@[go_sem] theorem tZero4 : tZero Try.prog 4 = some ([.v (.bool false)]) := by kernel_rfl
@[go_sem] theorem und5 : Try.prog.underlying 5 = some (.int .u8) := by kernel_rfl
@[go_sem] theorem tAgg5 : tAgg Try.prog 5 = some (false) := by kernel_rfl
@[go_sem] theorem tSize5 : tSize Try.prog 5 = some (1) := by kernel_rfl
@[go_sem] theorem tZero5 : tZero Try.prog 5 = some ([.v (.int .u8 0)]) := by kernel_rfl
@[go_sem] theorem und9 : Try.prog.underlying 9 = some (.string) := by kernel_rfl
@[go_sem] theorem tAgg9 : tAgg Try.prog 9 = some (false) := by kernel_rfl
@[go_sem] theorem tSize9 : tSize Try.prog 9 = some (1) := by kernel_rfl
@[go_sem] theorem tZero9 : tZero Try.prog 9 = some ([.v (.string ⟨#[]⟩)]) := by kernel_rfl
@[go_sem] theorem und12 : Try.prog.underlying 12 = some (.int .u64) := by kernel_rfl
@[go_sem] theorem tAgg12 : tAgg Try.prog 12 = some (false) := by kernel_rfl
@[go_sem] theorem tSize12 : tSize Try.prog 12 = some (1) := by kernel_rfl
@[go_sem] theorem tZero12 : tZero Try.prog 12 = some ([.v (.int .u64 0)]) := by kernel_rfl
@[go_sem] theorem tAgg13 : tAgg Try.prog 13 = some (true) := by kernel_rfl
@[go_sem] theorem tSize13 : tSize Try.prog 13 = some (2) := by kernel_rfl
@[go_sem] theorem tZero13 : tZero Try.prog 13 = some ([.v (.string ⟨#[]⟩), .v (.int .u64 0)]) := by kernel_rfl
@[go_sem] theorem tFld13f0 : tFld Try.prog 13 0 = some (0) := by kernel_rfl
@[go_sem] theorem tFldP13f0 : tFldP Try.prog 13 0 = some (0, false, 1) := by kernel_rfl
@[go_sem] theorem tFld13f1 : tFld Try.prog 13 1 = some (1) := by kernel_rfl
@[go_sem] theorem tFldP13f1 : tFldP Try.prog 13 1 = some (1, false, 1) := by kernel_rfl
@[go_sem] theorem tPl13 : tPl Try.prog 13 = some ([(0, 1), (1, 1)], [.v (.string ⟨#[]⟩), .v (.int .u64 0)]) := by kernel_rfl
@[go_sem] theorem und21 : Try.prog.underlying 21 = some (.int .i32) := by kernel_rfl
@[go_sem] theorem tAgg21 : tAgg Try.prog 21 = some (false) := by kernel_rfl
@[go_sem] theorem tSize21 : tSize Try.prog 21 = some (1) := by kernel_rfl
@[go_sem] theorem tZero21 : tZero Try.prog 21 = some ([.v (.int .i32 0)]) := by kernel_rfl
@[go_sem] theorem und22 : Try.prog.underlying 22 = some (.slice 61) := by kernel_rfl
@[go_sem] theorem tAgg22 : tAgg Try.prog 22 = some (false) := by kernel_rfl
@[go_sem] theorem tSize22 : tSize Try.prog 22 = some (1) := by kernel_rfl
@[go_sem] theorem tZero22 : tZero Try.prog 22 = some ([.v (.slice none 0 0)]) := by kernel_rfl
@[go_sem] theorem tSl22 : tSl Try.prog 22 = some (8) := by kernel_rfl
@[go_sem] theorem tApp22 : tApp Try.prog 22 = some (61, 8, 120) := by kernel_rfl
@[go_sem] theorem und23 : Try.prog.underlying 23 = some (.slice 55) := by kernel_rfl
@[go_sem] theorem tAgg23 : tAgg Try.prog 23 = some (false) := by kernel_rfl
@[go_sem] theorem tSize23 : tSize Try.prog 23 = some (1) := by kernel_rfl
@[go_sem] theorem tZero23 : tZero Try.prog 23 = some ([.v (.slice none 0 0)]) := by kernel_rfl
@[go_sem] theorem tSl23 : tSl Try.prog 23 = some (13) := by kernel_rfl
@[go_sem] theorem tApp23 : tApp Try.prog 23 = some (55, 13, 152) := by kernel_rfl
@[go_sem] theorem und24 : Try.prog.underlying 24 = some (.slice 32) := by kernel_rfl
@[go_sem] theorem tAgg24 : tAgg Try.prog 24 = some (false) := by kernel_rfl
@[go_sem] theorem tSize24 : tSize Try.prog 24 = some (1) := by kernel_rfl
@[go_sem] theorem tZero24 : tZero Try.prog 24 = some ([.v (.slice none 0 0)]) := by kernel_rfl
@[go_sem] theorem tSl24 : tSl Try.prog 24 = some (6) := by kernel_rfl
@[go_sem] theorem tApp24 : tApp Try.prog 24 = some (32, 6, 72) := by kernel_rfl
@[go_sem] theorem tAgg25 : tAgg Try.prog 25 = some (true) := by kernel_rfl
@[go_sem] theorem tSize25 : tSize Try.prog 25 = some (5) := by kernel_rfl
@[go_sem] theorem tZero25 : tZero Try.prog 25 = some ([.v (.slice none 0 0), .v (.slice none 0 0), .v (.slice none 0 0), .v (.int .i64 0), .v (.int .i64 0)]) := by kernel_rfl
@[go_sem] theorem tFld25f0 : tFld Try.prog 25 0 = some (0) := by kernel_rfl
@[go_sem] theorem tFldP25f0 : tFldP Try.prog 25 0 = some (0, false, 1) := by kernel_rfl
@[go_sem] theorem tFld25f1 : tFld Try.prog 25 1 = some (1) := by kernel_rfl
@[go_sem] theorem tFldP25f1 : tFldP Try.prog 25 1 = some (1, false, 1) := by kernel_rfl
@[go_sem] theorem tFld25f2 : tFld Try.prog 25 2 = some (2) := by kernel_rfl
@[go_sem] theorem tFldP25f2 : tFldP Try.prog 25 2 = some (2, false, 1) := by kernel_rfl
@[go_sem] theorem tFld25f3 : tFld Try.prog 25 3 = some (3) := by kernel_rfl
@[go_sem] theorem tFldP25f3 : tFldP Try.prog 25 3 = some (3, false, 1) := by kernel_rfl
@[go_sem] theorem tFld25f4 : tFld Try.prog 25 4 = some (4) := by kernel_rfl
@[go_sem] theorem tFldP25f4 : tFldP Try.prog 25 4 = some (4, false, 1) := by kernel_rfl
@[go_sem] theorem tPl25 : tPl Try.prog 25 = some ([(0, 1), (1, 1), (2, 1), (3, 1), (4, 1)], [.v (.slice none 0 0), .v (.slice none 0 0), .v (.slice none 0 0), .v (.int .i64 0), .v (.int .i64 0)]) := by kernel_rfl
@[go_sem] theorem tAgg26 : tAgg Try.prog 26 = some (true) := by kernel_rfl
@[go_sem] theorem tSize26 : tSize Try.prog 26 = some (5) := by kernel_rfl
@[go_sem] theorem tZero26 : tZero Try.prog 26 = some ([.v (.slice none 0 0), .v (.slice none 0 0), .v (.slice none 0 0), .v (.int .i64 0), .v (.int .i64 0)]) := by kernel_rfl
@[go_sem] theorem tFld26f0 : tFld Try.prog 26 0 = some (0) := by kernel_rfl
@[go_sem] theorem tFldP26f0 : tFldP Try.prog 26 0 = some (0, false, 1) := by kernel_rfl
@[go_sem] theorem tFld26f1 : tFld Try.prog 26 1 = some (1) := by kernel_rfl
@[go_sem] theorem tFldP26f1 : tFldP Try.prog 26 1 = some (1, false, 1) := by kernel_rfl
@[go_sem] theorem tFld26f2 : tFld Try.prog 26 2 = some (2) := by kernel_rfl
@[go_sem] theorem tFldP26f2 : tFldP Try.prog 26 2 = some (2, false, 1) := by kernel_rfl
@[go_sem] theorem tFld26f3 : tFld Try.prog 26 3 = some (3) := by kernel_rfl
@[go_sem] theorem tFldP26f3 : tFldP Try.prog 26 3 = some (3, false, 1) := by kernel_rfl
@[go_sem] theorem tFld26f4 : tFld Try.prog 26 4 = some (4) := by kernel_rfl
@[go_sem] theorem tFldP26f4 : tFldP Try.prog 26 4 = some (4, false, 1) := by kernel_rfl
@[go_sem] theorem tPl26 : tPl Try.prog 26 = some ([(0, 1), (1, 1), (2, 1), (3, 1), (4, 1)], [.v (.slice none 0 0), .v (.slice none 0 0), .v (.slice none 0 0), .v (.int .i64 0), .v (.int .i64 0)]) := by kernel_rfl
@[go_sem] theorem und27 : Try.prog.underlying 27 = some (.int .i64) := by kernel_rfl
@[go_sem] theorem tAgg27 : tAgg Try.prog 27 = some (false) := by kernel_rfl
@[go_sem] theorem tSize27 : tSize Try.prog 27 = some (1) := by kernel_rfl
@[go_sem] theorem tZero27 : tZero Try.prog 27 = some ([.v (.int .i64 0)]) := by kernel_rfl
@[go_sem] theorem aZero27 : aZero Try.prog 27 = some (.v (.int .i64 0)) := by kernel_rfl
@[go_sem] theorem und28 : Try.prog.underlying 28 = some (.int .i64) := by kernel_rfl
@[go_sem] theorem tAgg28 : tAgg Try.prog 28 = some (false) := by kernel_rfl
@[go_sem] theorem tSize28 : tSize Try.prog 28 = some (1) := by kernel_rfl
@[go_sem] theorem tZero28 : tZero Try.prog 28 = some ([.v (.int .i64 0)]) := by kernel_rfl
@[go_sem] theorem tAgg29 : tAgg Try.prog 29 = some (true) := by kernel_rfl
@[go_sem] theorem tSize29 : tSize Try.prog 29 = some (3) := by kernel_rfl
@[go_sem] theorem tZero29 : tZero Try.prog 29 = some ([.v (.int .i64 0), .v (.int .i64 0), .v (.string ⟨#[]⟩)]) := by kernel_rfl
@[go_sem] theorem tFld29f0 : tFld Try.prog 29 0 = some (0) := by kernel_rfl
@[go_sem] theorem tFldP29f0 : tFldP Try.prog 29 0 = some (0, false, 1) := by kernel_rfl
@[go_sem] theorem tFld29f1 : tFld Try.prog 29 1 = some (1) := by kernel_rfl
@[go_sem] theorem tFldP29f1 : tFldP Try.prog 29 1 = some (1, false, 1) := by kernel_rfl
@[go_sem] theorem tFld29f2 : tFld Try.prog 29 2 = some (2) := by kernel_rfl
@[go_sem] theorem tFldP29f2 : tFldP Try.prog 29 2 = some (2, false, 1) := by kernel_rfl
@[go_sem] theorem tPl29 : tPl Try.prog 29 = some ([(0, 1), (1, 1), (2, 1)], [.v (.int .i64 0), .v (.int .i64 0), .v (.string ⟨#[]⟩)]) := by kernel_rfl
@[go_sem] theorem tEqG29 : tEqG Try.prog 29 = some ([.i, .i, .s]) := by kernel_rfl
@[go_sem] theorem tAgg30 : tAgg Try.prog 30 = some (true) := by kernel_rfl
@[go_sem] theorem tSize30 : tSize Try.prog 30 = some (3) := by kernel_rfl
@[go_sem] theorem tZero30 : tZero Try.prog 30 = some ([.v (.int .i64 0), .v (.int .i64 0), .v (.string ⟨#[]⟩)]) := by kernel_rfl
@[go_sem] theorem tFld30f0 : tFld Try.prog 30 0 = some (0) := by kernel_rfl
@[go_sem] theorem tFldP30f0 : tFldP Try.prog 30 0 = some (0, false, 1) := by kernel_rfl
@[go_sem] theorem tFld30f1 : tFld Try.prog 30 1 = some (1) := by kernel_rfl
@[go_sem] theorem tFldP30f1 : tFldP Try.prog 30 1 = some (1, false, 1) := by kernel_rfl
@[go_sem] theorem tFld30f2 : tFld Try.prog 30 2 = some (2) := by kernel_rfl
@[go_sem] theorem tFldP30f2 : tFldP Try.prog 30 2 = some (2, false, 1) := by kernel_rfl
@[go_sem] theorem tPl30 : tPl Try.prog 30 = some ([(0, 1), (1, 1), (2, 1)], [.v (.int .i64 0), .v (.int .i64 0), .v (.string ⟨#[]⟩)]) := by kernel_rfl
@[go_sem] theorem tEqG30 : tEqG Try.prog 30 = some ([.i, .i, .s]) := by kernel_rfl
@[go_sem] theorem tAgg31 : tAgg Try.prog 31 = some (true) := by kernel_rfl
@[go_sem] theorem tSize31 : tSize Try.prog 31 = some (6) := by kernel_rfl
@[go_sem] theorem tZero31 : tZero Try.prog 31 = some ([.v (.int .i64 0), .v (.string ⟨#[]⟩), .v (.string ⟨#[]⟩), .v (.int .i64 0), .v (.int .i64 0), .v (.string ⟨#[]⟩)]) := by kernel_rfl
@[go_sem] theorem tFld31f0 : tFld Try.prog 31 0 = some (0) := by kernel_rfl
@[go_sem] theorem tFldP31f0 : tFldP Try.prog 31 0 = some (0, false, 1) := by kernel_rfl
@[go_sem] theorem tFld31f1 : tFld Try.prog 31 1 = some (1) := by kernel_rfl
@[go_sem] theorem tFldP31f1 : tFldP Try.prog 31 1 = some (1, false, 1) := by kernel_rfl
@[go_sem] theorem tFld31f2 : tFld Try.prog 31 2 = some (2) := by kernel_rfl
@[go_sem] theorem tFldP31f2 : tFldP Try.prog 31 2 = some (2, false, 1) := by kernel_rfl
@[go_sem] theorem tFld31f3 : tFld Try.prog 31 3 = some (3) := by kernel_rfl
@[go_sem] theorem tFldP31f3 : tFldP Try.prog 31 3 = some (3, true, 3) := by kernel_rfl
@[go_sem] theorem tPl31 : tPl Try.prog 31 = some ([(0, 1), (1, 1), (2, 1), (3, 3)], [.v (.int .i64 0), .v (.string ⟨#[]⟩), .v (.string ⟨#[]⟩), .v (.int .i64 0), .v (.int .i64 0), .v (.string ⟨#[]⟩)]) := by kernel_rfl
@[go_sem] theorem tEqG31 : tEqG Try.prog 31 = some ([.i, .s, .s, .i, .i, .s]) := by kernel_rfl
@[go_sem] theorem tAgg32 : tAgg Try.prog 32 = some (true) := by kernel_rfl
@[go_sem] theorem tSize32 : tSize Try.prog 32 = some (6) := by kernel_rfl
@[go_sem] theorem tZero32 : tZero Try.prog 32 = some ([.v (.int .i64 0), .v (.string ⟨#[]⟩), .v (.string ⟨#[]⟩), .v (.int .i64 0), .v (.int .i64 0), .v (.string ⟨#[]⟩)]) := by kernel_rfl
@[go_sem] theorem tFld32f0 : tFld Try.prog 32 0 = some (0) := by kernel_rfl
@[go_sem] theorem tFldP32f0 : tFldP Try.prog 32 0 = some (0, false, 1) := by kernel_rfl
@[go_sem] theorem tFld32f1 : tFld Try.prog 32 1 = some (1) := by kernel_rfl
@[go_sem] theorem tFldP32f1 : tFldP Try.prog 32 1 = some (1, false, 1) := by kernel_rfl
@[go_sem] theorem tFld32f2 : tFld Try.prog 32 2 = some (2) := by kernel_rfl
@[go_sem] theorem tFldP32f2 : tFldP Try.prog 32 2 = some (2, false, 1) := by kernel_rfl
@[go_sem] theorem tFld32f3 : tFld Try.prog 32 3 = some (3) := by kernel_rfl
@[go_sem] theorem tFldP32f3 : tFldP Try.prog 32 3 = some (3, true, 3) := by kernel_rfl
@[go_sem] theorem tPl32 : tPl Try.prog 32 = some ([(0, 1), (1, 1), (2, 1), (3, 3)], [.v (.int .i64 0), .v (.string ⟨#[]⟩), .v (.string ⟨#[]⟩), .v (.int .i64 0), .v (.int .i64 0), .v (.string ⟨#[]⟩)]) := by kernel_rfl
@[go_sem] theorem tEqG32 : tEqG Try.prog 32 = some ([.i, .s, .s, .i, .i, .s]) := by kernel_rfl
@[go_sem] theorem tAgg33 : tAgg Try.prog 33 = some (false) := by kernel_rfl
@[go_sem] theorem tSize33 : tSize Try.prog 33 = some (1) := by kernel_rfl
@[go_sem] theorem tZero33 : tZero Try.prog 33 = some ([.v (.nilFunc)]) := by kernel_rfl
@[go_sem] theorem tAgg34 : tAgg Try.prog 34 = some (false) := by kernel_rfl
@[go_sem] theorem tSize34 : tSize Try.prog 34 = some (1) := by kernel_rfl
@[go_sem] theorem tZero34 : tZero Try.prog 34 = some ([.v (.nilFunc)]) := by kernel_rfl
@[go_sem] theorem tAgg35 : tAgg Try.prog 35 = some (false) := by kernel_rfl
@[go_sem] theorem tSize35 : tSize Try.prog 35 = some (1) := by kernel_rfl
@[go_sem] theorem tZero35 : tZero Try.prog 35 = some ([.v (.nilFunc)]) := by kernel_rfl
@[go_sem] theorem tAgg36 : tAgg Try.prog 36 = some (false) := by kernel_rfl
@[go_sem] theorem tSize36 : tSize Try.prog 36 = some (1) := by kernel_rfl
@[go_sem] theorem tZero36 : tZero Try.prog 36 = some ([.v (.nilFunc)]) := by kernel_rfl
@[go_sem] theorem tAgg37 : tAgg Try.prog 37 = some (false) := by kernel_rfl
@[go_sem] theorem tSize37 : tSize Try.prog 37 = some (1) := by kernel_rfl
@[go_sem] theorem tZero37 : tZero Try.prog 37 = some ([.v (.nilFunc)]) := by kernel_rfl
@[go_sem] theorem tAgg38 : tAgg Try.prog 38 = some (false) := by kernel_rfl
@[go_sem] theorem tSize38 : tSize Try.prog 38 = some (1) := by kernel_rfl
@[go_sem] theorem tZero38 : tZero Try.prog 38 = some ([.v (.nilFunc)]) := by kernel_rfl
@[go_sem] theorem tAgg39 : tAgg Try.prog 39 = some (false) := by kernel_rfl
@[go_sem] theorem tSize39 : tSize Try.prog 39 = some (1) := by kernel_rfl
@[go_sem] theorem tZero39 : tZero Try.prog 39 = some ([.v (.nilFunc)]) := by kernel_rfl
@[go_sem] theorem und40 : Try.prog.underlying 40 = some (.slice 9) := by kernel_rfl
@[go_sem] theorem tAgg40 : tAgg Try.prog 40 = some (false) := by kernel_rfl
@[go_sem] theorem tSize40 : tSize Try.prog 40 = some (1) := by kernel_rfl
@[go_sem] theorem tZero40 : tZero Try.prog 40 = some ([.v (.slice none 0 0)]) := by kernel_rfl
@[go_sem] theorem tSl40 : tSl Try.prog 40 = some (1) := by kernel_rfl
@[go_sem] theorem tApp40 : tApp Try.prog 40 = some (9, 1, 16) := by kernel_rfl
@[go_sem] theorem tAgg41 : tAgg Try.prog 41 = some (false) := by kernel_rfl
@[go_sem] theorem tSize41 : tSize Try.prog 41 = some (1) := by kernel_rfl
@[go_sem] theorem tZero41 : tZero Try.prog 41 = some ([.v (.nilFunc)]) := by kernel_rfl
@[go_sem] theorem tAgg42 : tAgg Try.prog 42 = some (false) := by kernel_rfl
@[go_sem] theorem tSize42 : tSize Try.prog 42 = some (1) := by kernel_rfl
@[go_sem] theorem tZero42 : tZero Try.prog 42 = some ([.v (.nilFunc)]) := by kernel_rfl
@[go_sem] theorem und43 : Try.prog.underlying 43 = some (.slice 40) := by kernel_rfl
@[go_sem] theorem tAgg43 : tAgg Try.prog 43 = some (false) := by kernel_rfl
@[go_sem] theorem tSize43 : tSize Try.prog 43 = some (1) := by kernel_rfl
@[go_sem] theorem tZero43 : tZero Try.prog 43 = some ([.v (.slice none 0 0)]) := by kernel_rfl
@[go_sem] theorem tSl43 : tSl Try.prog 43 = some (1) := by kernel_rfl
@[go_sem] theorem tApp43 : tApp Try.prog 43 = some (40, 1, 24) := by kernel_rfl
@[go_sem] theorem tAgg44 : tAgg Try.prog 44 = some (false) := by kernel_rfl
@[go_sem] theorem tSize44 : tSize Try.prog 44 = some (1) := by kernel_rfl
@[go_sem] theorem tZero44 : tZero Try.prog 44 = some ([.v (.nilFunc)]) := by kernel_rfl
@[go_sem] theorem und45 : Try.prog.underlying 45 = some (.int .i64) := by kernel_rfl
@[go_sem] theorem tAgg45 : tAgg Try.prog 45 = some (false) := by kernel_rfl
@[go_sem] theorem tSize45 : tSize Try.prog 45 = some (1) := by kernel_rfl
@[go_sem] theorem tZero45 : tZero Try.prog 45 = some ([.v (.int .i64 0)]) := by kernel_rfl
@[go_sem] theorem tAgg46 : tAgg Try.prog 46 = some (false) := by kernel_rfl
@[go_sem] theorem tSize46 : tSize Try.prog 46 = some (1) := by kernel_rfl
@[go_sem] theorem tZero46 : tZero Try.prog 46 = some ([.v (.nilFunc)]) := by kernel_rfl
@[go_sem] theorem tAgg47 : tAgg Try.prog 47 = some (false) := by kernel_rfl
@[go_sem] theorem tSize47 : tSize Try.prog 47 = some (1) := by kernel_rfl
@[go_sem] theorem tZero47 : tZero Try.prog 47 = some ([.v (.nilFunc)]) := by kernel_rfl
@[go_sem] theorem tAgg48 : tAgg Try.prog 48 = some (false) := by kernel_rfl
@[go_sem] theorem tSize48 : tSize Try.prog 48 = some (1) := by kernel_rfl
@[go_sem] theorem tZero48 : tZero Try.prog 48 = some ([.v (.nilFunc)]) := by kernel_rfl
@[go_sem] theorem tAgg49 : tAgg Try.prog 49 = some (false) := by kernel_rfl
@[go_sem] theorem tSize49 : tSize Try.prog 49 = some (1) := by kernel_rfl
@[go_sem] theorem tZero49 : tZero Try.prog 49 = some ([.v (.nilFunc)]) := by kernel_rfl
@[go_sem] theorem tAgg50 : tAgg Try.prog 50 = some (false) := by kernel_rfl
@[go_sem] theorem tSize50 : tSize Try.prog 50 = some (1) := by kernel_rfl
@[go_sem] theorem tZero50 : tZero Try.prog 50 = some ([.v (.nilFunc)]) := by kernel_rfl
@[go_sem] theorem tAgg51 : tAgg Try.prog 51 = some (false) := by kernel_rfl
@[go_sem] theorem tSize51 : tSize Try.prog 51 = some (1) := by kernel_rfl
@[go_sem] theorem tZero51 : tZero Try.prog 51 = some ([.v (.nilFunc)]) := by kernel_rfl
@[go_sem] theorem tAgg52 : tAgg Try.prog 52 = some (false) := by kernel_rfl
@[go_sem] theorem tSize52 : tSize Try.prog 52 = some (1) := by kernel_rfl
@[go_sem] theorem tZero52 : tZero Try.prog 52 = some ([.v (.nilFunc)]) := by kernel_rfl
@[go_sem] theorem und53 : Try.prog.underlying 53 = some (.int .i64) := by kernel_rfl
@[go_sem] theorem tAgg53 : tAgg Try.prog 53 = some (false) := by kernel_rfl
@[go_sem] theorem tSize53 : tSize Try.prog 53 = some (1) := by kernel_rfl
@[go_sem] theorem tZero53 : tZero Try.prog 53 = some ([.v (.int .i64 0)]) := by kernel_rfl
@[go_sem] theorem tAgg54 : tAgg Try.prog 54 = some (true) := by kernel_rfl
@[go_sem] theorem tSize54 : tSize Try.prog 54 = some (13) := by kernel_rfl
@[go_sem] theorem tZero54 : tZero Try.prog 54 = some ([.v (.int .i64 0), .v (.int .i64 0), .v (.string ⟨#[]⟩), .v (.string ⟨#[]⟩), .v (.int .i64 0), .v (.int .i64 0), .v (.string ⟨#[]⟩), .v (.int .i64 0), .v (.string ⟨#[]⟩), .v (.string ⟨#[]⟩), .v (.int .i64 0), .v (.int .i64 0), .v (.string ⟨#[]⟩)]) := by kernel_rfl
@[go_sem] theorem tFld54f0 : tFld Try.prog 54 0 = some (0) := by kernel_rfl
@[go_sem] theorem tFldP54f0 : tFldP Try.prog 54 0 = some (0, false, 1) := by kernel_rfl
@[go_sem] theorem tFld54f1 : tFld Try.prog 54 1 = some (1) := by kernel_rfl
@[go_sem] theorem tFldP54f1 : tFldP Try.prog 54 1 = some (1, true, 6) := by kernel_rfl
@[go_sem] theorem tFld54f2 : tFld Try.prog 54 2 = some (7) := by kernel_rfl
@[go_sem] theorem tFldP54f2 : tFldP Try.prog 54 2 = some (7, true, 6) := by kernel_rfl
@[go_sem] theorem tPl54 : tPl Try.prog 54 = some ([(0, 1), (1, 6), (7, 6)], [.v (.int .i64 0), .v (.int .i64 0), .v (.string ⟨#[]⟩), .v (.string ⟨#[]⟩), .v (.int .i64 0), .v (.int .i64 0), .v (.string ⟨#[]⟩), .v (.int .i64 0), .v (.string ⟨#[]⟩), .v (.string ⟨#[]⟩), .v (.int .i64 0), .v (.int .i64 0), .v (.string ⟨#[]⟩)]) := by kernel_rfl
@[go_sem] theorem tEqG54 : tEqG Try.prog 54 = some ([.i, .i, .s, .s, .i, .i, .s, .i, .s, .s, .i, .i, .s]) := by kernel_rfl
@[go_sem] theorem tAgg55 : tAgg Try.prog 55 = some (true) := by kernel_rfl
@[go_sem] theorem tSize55 : tSize Try.prog 55 = some (13) := by kernel_rfl
@[go_sem] theorem tZero55 : tZero Try.prog 55 = some ([.v (.int .i64 0), .v (.int .i64 0), .v (.string ⟨#[]⟩), .v (.string ⟨#[]⟩), .v (.int .i64 0), .v (.int .i64 0), .v (.string ⟨#[]⟩), .v (.int .i64 0), .v (.string ⟨#[]⟩), .v (.string ⟨#[]⟩), .v (.int .i64 0), .v (.int .i64 0), .v (.string ⟨#[]⟩)]) := by kernel_rfl
@[go_sem] theorem tFld55f0 : tFld Try.prog 55 0 = some (0) := by kernel_rfl
@[go_sem] theorem tFldP55f0 : tFldP Try.prog 55 0 = some (0, false, 1) := by kernel_rfl
@[go_sem] theorem tFld55f1 : tFld Try.prog 55 1 = some (1) := by kernel_rfl
@[go_sem] theorem tFldP55f1 : tFldP Try.prog 55 1 = some (1, true, 6) := by kernel_rfl
@[go_sem] theorem tFld55f2 : tFld Try.prog 55 2 = some (7) := by kernel_rfl
@[go_sem] theorem tFldP55f2 : tFldP Try.prog 55 2 = some (7, true, 6) := by kernel_rfl
@[go_sem] theorem tPl55 : tPl Try.prog 55 = some ([(0, 1), (1, 6), (7, 6)], [.v (.int .i64 0), .v (.int .i64 0), .v (.string ⟨#[]⟩), .v (.string ⟨#[]⟩), .v (.int .i64 0), .v (.int .i64 0), .v (.string ⟨#[]⟩), .v (.int .i64 0), .v (.string ⟨#[]⟩), .v (.string ⟨#[]⟩), .v (.int .i64 0), .v (.int .i64 0), .v (.string ⟨#[]⟩)]) := by kernel_rfl
@[go_sem] theorem tEqG55 : tEqG Try.prog 55 = some ([.i, .i, .s, .s, .i, .i, .s, .i, .s, .s, .i, .i, .s]) := by kernel_rfl
@[go_sem] theorem und56 : Try.prog.underlying 56 = some (.int .i64) := by kernel_rfl
@[go_sem] theorem tAgg56 : tAgg Try.prog 56 = some (false) := by kernel_rfl
@[go_sem] theorem tSize56 : tSize Try.prog 56 = some (1) := by kernel_rfl
@[go_sem] theorem tZero56 : tZero Try.prog 56 = some ([.v (.int .i64 0)]) := by kernel_rfl
@[go_sem] theorem und57 : Try.prog.underlying 57 = some (.slice 59) := by kernel_rfl
@[go_sem] theorem tAgg57 : tAgg Try.prog 57 = some (false) := by kernel_rfl
@[go_sem] theorem tSize57 : tSize Try.prog 57 = some (1) := by kernel_rfl
@[go_sem] theorem tZero57 : tZero Try.prog 57 = some ([.v (.slice none 0 0)]) := by kernel_rfl
@[go_sem] theorem tSl57 : tSl Try.prog 57 = some (3) := by kernel_rfl
@[go_sem] theorem tApp57 : tApp Try.prog 57 = some (59, 3, 48) := by kernel_rfl
@[go_sem] theorem tAgg58 : tAgg Try.prog 58 = some (true) := by kernel_rfl
@[go_sem] theorem tSize58 : tSize Try.prog 58 = some (3) := by kernel_rfl
@[go_sem] theorem tZero58 : tZero Try.prog 58 = some ([.v (.int .i64 0), .v (.string ⟨#[]⟩), .v (.slice none 0 0)]) := by kernel_rfl
@[go_sem] theorem tFld58f0 : tFld Try.prog 58 0 = some (0) := by kernel_rfl
@[go_sem] theorem tFldP58f0 : tFldP Try.prog 58 0 = some (0, false, 1) := by kernel_rfl
@[go_sem] theorem tFld58f1 : tFld Try.prog 58 1 = some (1) := by kernel_rfl
@[go_sem] theorem tFldP58f1 : tFldP Try.prog 58 1 = some (1, false, 1) := by kernel_rfl
@[go_sem] theorem tFld58f2 : tFld Try.prog 58 2 = some (2) := by kernel_rfl
@[go_sem] theorem tFldP58f2 : tFldP Try.prog 58 2 = some (2, false, 1) := by kernel_rfl
@[go_sem] theorem tPl58 : tPl Try.prog 58 = some ([(0, 1), (1, 1), (2, 1)], [.v (.int .i64 0), .v (.string ⟨#[]⟩), .v (.slice none 0 0)]) := by kernel_rfl
@[go_sem] theorem tAgg59 : tAgg Try.prog 59 = some (true) := by kernel_rfl
@[go_sem] theorem tSize59 : tSize Try.prog 59 = some (3) := by kernel_rfl
@[go_sem] theorem tZero59 : tZero Try.prog 59 = some ([.v (.int .i64 0), .v (.string ⟨#[]⟩), .v (.slice none 0 0)]) := by kernel_rfl
@[go_sem] theorem tFld59f0 : tFld Try.prog 59 0 = some (0) := by kernel_rfl
@[go_sem] theorem tFldP59f0 : tFldP Try.prog 59 0 = some (0, false, 1) := by kernel_rfl
@[go_sem] theorem tFld59f1 : tFld Try.prog 59 1 = some (1) := by kernel_rfl
@[go_sem] theorem tFldP59f1 : tFldP Try.prog 59 1 = some (1, false, 1) := by kernel_rfl
@[go_sem] theorem tFld59f2 : tFld Try.prog 59 2 = some (2) := by kernel_rfl
@[go_sem] theorem tFldP59f2 : tFldP Try.prog 59 2 = some (2, false, 1) := by kernel_rfl
@[go_sem] theorem tPl59 : tPl Try.prog 59 = some ([(0, 1), (1, 1), (2, 1)], [.v (.int .i64 0), .v (.string ⟨#[]⟩), .v (.slice none 0 0)]) := by kernel_rfl
@[go_sem] theorem tAgg60 : tAgg Try.prog 60 = some (true) := by kernel_rfl
@[go_sem] theorem tSize60 : tSize Try.prog 60 = some (8) := by kernel_rfl
@[go_sem] theorem tZero60 : tZero Try.prog 60 = some ([.v (.string ⟨#[]⟩), .v (.string ⟨#[]⟩), .v (.bool false), .v (.string ⟨#[]⟩), .v (.string ⟨#[]⟩), .v (.int .i64 0), .v (.string ⟨#[]⟩), .v (.slice none 0 0)]) := by kernel_rfl
@[go_sem] theorem tFld60f0 : tFld Try.prog 60 0 = some (0) := by kernel_rfl
@[go_sem] theorem tFldP60f0 : tFldP Try.prog 60 0 = some (0, false, 1) := by kernel_rfl
@[go_sem] theorem tFld60f1 : tFld Try.prog 60 1 = some (1) := by kernel_rfl
@[go_sem] theorem tFldP60f1 : tFldP Try.prog 60 1 = some (1, false, 1) := by kernel_rfl
@[go_sem] theorem tFld60f2 : tFld Try.prog 60 2 = some (2) := by kernel_rfl
@[go_sem] theorem tFldP60f2 : tFldP Try.prog 60 2 = some (2, false, 1) := by kernel_rfl
@[go_sem] theorem tFld60f3 : tFld Try.prog 60 3 = some (3) := by kernel_rfl
@[go_sem] theorem tFldP60f3 : tFldP Try.prog 60 3 = some (3, false, 1) := by kernel_rfl
@[go_sem] theorem tFld60f4 : tFld Try.prog 60 4 = some (4) := by kernel_rfl
@[go_sem] theorem tFldP60f4 : tFldP Try.prog 60 4 = some (4, false, 1) := by kernel_rfl
@[go_sem] theorem tFld60f5 : tFld Try.prog 60 5 = some (5) := by kernel_rfl
@[go_sem] theorem tFldP60f5 : tFldP Try.prog 60 5 = some (5, true, 3) := by kernel_rfl
@[go_sem] theorem tPl60 : tPl Try.prog 60 = some ([(0, 1), (1, 1), (2, 1), (3, 1), (4, 1), (5, 3)], [.v (.string ⟨#[]⟩), .v (.string ⟨#[]⟩), .v (.bool false), .v (.string ⟨#[]⟩), .v (.string ⟨#[]⟩), .v (.int .i64 0), .v (.string ⟨#[]⟩), .v (.slice none 0 0)]) := by kernel_rfl
@[go_sem] theorem tAgg61 : tAgg Try.prog 61 = some (true) := by kernel_rfl
@[go_sem] theorem tSize61 : tSize Try.prog 61 = some (8) := by kernel_rfl
@[go_sem] theorem tZero61 : tZero Try.prog 61 = some ([.v (.string ⟨#[]⟩), .v (.string ⟨#[]⟩), .v (.bool false), .v (.string ⟨#[]⟩), .v (.string ⟨#[]⟩), .v (.int .i64 0), .v (.string ⟨#[]⟩), .v (.slice none 0 0)]) := by kernel_rfl
@[go_sem] theorem tFld61f0 : tFld Try.prog 61 0 = some (0) := by kernel_rfl
@[go_sem] theorem tFldP61f0 : tFldP Try.prog 61 0 = some (0, false, 1) := by kernel_rfl
@[go_sem] theorem tFld61f1 : tFld Try.prog 61 1 = some (1) := by kernel_rfl
@[go_sem] theorem tFldP61f1 : tFldP Try.prog 61 1 = some (1, false, 1) := by kernel_rfl
@[go_sem] theorem tFld61f2 : tFld Try.prog 61 2 = some (2) := by kernel_rfl
@[go_sem] theorem tFldP61f2 : tFldP Try.prog 61 2 = some (2, false, 1) := by kernel_rfl
@[go_sem] theorem tFld61f3 : tFld Try.prog 61 3 = some (3) := by kernel_rfl
@[go_sem] theorem tFldP61f3 : tFldP Try.prog 61 3 = some (3, false, 1) := by kernel_rfl
@[go_sem] theorem tFld61f4 : tFld Try.prog 61 4 = some (4) := by kernel_rfl
@[go_sem] theorem tFldP61f4 : tFldP Try.prog 61 4 = some (4, false, 1) := by kernel_rfl
@[go_sem] theorem tFld61f5 : tFld Try.prog 61 5 = some (5) := by kernel_rfl
@[go_sem] theorem tFldP61f5 : tFldP Try.prog 61 5 = some (5, true, 3) := by kernel_rfl
@[go_sem] theorem tPl61 : tPl Try.prog 61 = some ([(0, 1), (1, 1), (2, 1), (3, 1), (4, 1), (5, 3)], [.v (.string ⟨#[]⟩), .v (.string ⟨#[]⟩), .v (.bool false), .v (.string ⟨#[]⟩), .v (.string ⟨#[]⟩), .v (.int .i64 0), .v (.string ⟨#[]⟩), .v (.slice none 0 0)]) := by kernel_rfl
@[go_sem] theorem tAgg62 : tAgg Try.prog 62 = some (false) := by kernel_rfl
@[go_sem] theorem tSize62 : tSize Try.prog 62 = some (1) := by kernel_rfl
@[go_sem] theorem tZero62 : tZero Try.prog 62 = some ([.v (.nilFunc)]) := by kernel_rfl
@[go_sem] theorem tAgg63 : tAgg Try.prog 63 = some (false) := by kernel_rfl
@[go_sem] theorem tSize63 : tSize Try.prog 63 = some (1) := by kernel_rfl
@[go_sem] theorem tZero63 : tZero Try.prog 63 = some ([.v (.nilFunc)]) := by kernel_rfl
@[go_sem] theorem tAgg64 : tAgg Try.prog 64 = some (false) := by kernel_rfl
@[go_sem] theorem tSize64 : tSize Try.prog 64 = some (1) := by kernel_rfl
@[go_sem] theorem tZero64 : tZero Try.prog 64 = some ([.v (.nilFunc)]) := by kernel_rfl
@[go_sem] theorem tAgg66 : tAgg Try.prog 66 = some (false) := by kernel_rfl
@[go_sem] theorem tSize66 : tSize Try.prog 66 = some (1) := by kernel_rfl
@[go_sem] theorem tZero66 : tZero Try.prog 66 = some ([.v (.nilFunc)]) := by kernel_rfl
@[go_sem] theorem tAgg67 : tAgg Try.prog 67 = some (false) := by kernel_rfl
@[go_sem] theorem tSize67 : tSize Try.prog 67 = some (1) := by kernel_rfl
@[go_sem] theorem tZero67 : tZero Try.prog 67 = some ([.v (.nilFunc)]) := by kernel_rfl
@[go_sem] theorem tAgg68 : tAgg Try.prog 68 = some (false) := by kernel_rfl
@[go_sem] theorem tSize68 : tSize Try.prog 68 = some (1) := by kernel_rfl
@[go_sem] theorem tZero68 : tZero Try.prog 68 = some ([.v (.nilFunc)]) := by kernel_rfl
@[go_sem] theorem und69 : Try.prog.underlying 69 = some (.slice 5) := by kernel_rfl
@[go_sem] theorem tAgg69 : tAgg Try.prog 69 = some (false) := by kernel_rfl
@[go_sem] theorem tSize69 : tSize Try.prog 69 = some (1) := by kernel_rfl
@[go_sem] theorem tZero69 : tZero Try.prog 69 = some ([.v (.slice none 0 0)]) := by kernel_rfl
@[go_sem] theorem tSl69 : tSl Try.prog 69 = some (1) := by kernel_rfl
@[go_sem] theorem tApp69 : tApp Try.prog 69 = some (5, 1, 1) := by kernel_rfl
@[go_sem] theorem tAgg70 : tAgg Try.prog 70 = some (false) := by kernel_rfl
@[go_sem] theorem tSize70 : tSize Try.prog 70 = some (1) := by kernel_rfl
@[go_sem] theorem tZero70 : tZero Try.prog 70 = some ([.v (.nilFunc)]) := by kernel_rfl
@[go_sem] theorem tAgg71 : tAgg Try.prog 71 = some (false) := by kernel_rfl
@[go_sem] theorem tSize71 : tSize Try.prog 71 = some (1) := by kernel_rfl
@[go_sem] theorem tZero71 : tZero Try.prog 71 = some ([.v (.nilFunc)]) := by kernel_rfl
@[go_sem] theorem tAgg72 : tAgg Try.prog 72 = some (false) := by kernel_rfl
@[go_sem] theorem tSize72 : tSize Try.prog 72 = some (1) := by kernel_rfl
@[go_sem] theorem tZero72 : tZero Try.prog 72 = some ([.v (.nilFunc)]) := by kernel_rfl
@[go_sem] theorem tAgg73 : tAgg Try.prog 73 = some (false) := by kernel_rfl
@[go_sem] theorem tSize73 : tSize Try.prog 73 = some (1) := by kernel_rfl
@[go_sem] theorem tZero73 : tZero Try.prog 73 = some ([.v (.nilFunc)]) := by kernel_rfl
@[go_sem] theorem tAgg74 : tAgg Try.prog 74 = some (false) := by kernel_rfl
@[go_sem] theorem tSize74 : tSize Try.prog 74 = some (1) := by kernel_rfl
@[go_sem] theorem tZero74 : tZero Try.prog 74 = some ([.v (.nilFunc)]) := by kernel_rfl
@[go_sem] theorem tAgg75 : tAgg Try.prog 75 = some (false) := by kernel_rfl
@[go_sem] theorem tSize75 : tSize Try.prog 75 = some (1) := by kernel_rfl
@[go_sem] theorem tZero75 : tZero Try.prog 75 = some ([.v (.nilFunc)]) := by kernel_rfl
@[go_sem] theorem tAgg76 : tAgg Try.prog 76 = some (false) := by kernel_rfl
@[go_sem] theorem tSize76 : tSize Try.prog 76 = some (1) := by kernel_rfl
@[go_sem] theorem tZero76 : tZero Try.prog 76 = some ([.v (.nilFunc)]) := by kernel_rfl
@[go_sem] theorem tAgg77 : tAgg Try.prog 77 = some (false) := by kernel_rfl
@[go_sem] theorem tSize77 : tSize Try.prog 77 = some (1) := by kernel_rfl
@[go_sem] theorem tZero77 : tZero Try.prog 77 = some ([.v (.nilFunc)]) := by kernel_rfl
@[go_sem] theorem tAgg78 : tAgg Try.prog 78 = some (false) := by kernel_rfl
@[go_sem] theorem tSize78 : tSize Try.prog 78 = some (1) := by kernel_rfl
@[go_sem] theorem tZero78 : tZero Try.prog 78 = some ([.v (.nilFunc)]) := by kernel_rfl
@[go_sem] theorem tAgg79 : tAgg Try.prog 79 = some (false) := by kernel_rfl
@[go_sem] theorem tSize79 : tSize Try.prog 79 = some (1) := by kernel_rfl
@[go_sem] theorem tZero79 : tZero Try.prog 79 = some ([.v (.nilFunc)]) := by kernel_rfl
@[go_sem] theorem tAgg80 : tAgg Try.prog 80 = some (false) := by kernel_rfl
@[go_sem] theorem tSize80 : tSize Try.prog 80 = some (1) := by kernel_rfl
@[go_sem] theorem tZero80 : tZero Try.prog 80 = some ([.v (.nilFunc)]) := by kernel_rfl
@[go_sem] theorem tAgg81 : tAgg Try.prog 81 = some (false) := by kernel_rfl
@[go_sem] theorem tSize81 : tSize Try.prog 81 = some (1) := by kernel_rfl
@[go_sem] theorem tZero81 : tZero Try.prog 81 = some ([.v (.nilFunc)]) := by kernel_rfl
@[go_sem] theorem tAgg82 : tAgg Try.prog 82 = some (false) := by kernel_rfl
@[go_sem] theorem tSize82 : tSize Try.prog 82 = some (1) := by kernel_rfl
@[go_sem] theorem tZero82 : tZero Try.prog 82 = some ([.v (.nilFunc)]) := by kernel_rfl
@[go_sem] theorem tAgg83 : tAgg Try.prog 83 = some (false) := by kernel_rfl
@[go_sem] theorem tSize83 : tSize Try.prog 83 = some (1) := by kernel_rfl
@[go_sem] theorem tZero83 : tZero Try.prog 83 = some ([.v (.nilFunc)]) := by kernel_rfl
@[go_sem] theorem tAgg84 : tAgg Try.prog 84 = some (false) := by kernel_rfl
@[go_sem] theorem tSize84 : tSize Try.prog 84 = some (1) := by kernel_rfl
@[go_sem] theorem tZero84 : tZero Try.prog 84 = some ([.v (.nilFunc)]) := by kernel_rfl
@[go_sem] theorem tAgg85 : tAgg Try.prog 85 = some (false) := by kernel_rfl
@[go_sem] theorem tSize85 : tSize Try.prog 85 = some (1) := by kernel_rfl
@[go_sem] theorem tZero85 : tZero Try.prog 85 = some ([.v (.nilFunc)]) := by kernel_rfl
@[go_sem] theorem tAgg86 : tAgg Try.prog 86 = some (false) := by kernel_rfl
@[go_sem] theorem tSize86 : tSize Try.prog 86 = some (1) := by kernel_rfl
@[go_sem] theorem tZero86 : tZero Try.prog 86 = some ([.v (.nilFunc)]) := by kernel_rfl
@[go_sem] theorem tAgg87 : tAgg Try.prog 87 = some (false) := by kernel_rfl
@[go_sem] theorem tSize87 : tSize Try.prog 87 = some (1) := by kernel_rfl
@[go_sem] theorem tZero87 : tZero Try.prog 87 = some ([.v (.nilFunc)]) := by kernel_rfl
@[go_sem] theorem tAgg88 : tAgg Try.prog 88 = some (false) := by kernel_rfl
@[go_sem] theorem tSize88 : tSize Try.prog 88 = some (1) := by kernel_rfl
@[go_sem] theorem tZero88 : tZero Try.prog 88 = some ([.v (.nilFunc)]) := by kernel_rfl
@[go_sem] theorem tAgg89 : tAgg Try.prog 89 = some (false) := by kernel_rfl
@[go_sem] theorem tSize89 : tSize Try.prog 89 = some (1) := by kernel_rfl
@[go_sem] theorem tZero89 : tZero Try.prog 89 = some ([.v (.nilFunc)]) := by kernel_rfl
@[go_sem] theorem tAgg90 : tAgg Try.prog 90 = some (false) := by kernel_rfl
@[go_sem] theorem tSize90 : tSize Try.prog 90 = some (1) := by kernel_rfl
@[go_sem] theorem tZero90 : tZero Try.prog 90 = some ([.v (.nilFunc)]) := by kernel_rfl
@[go_sem] theorem tAgg91 : tAgg Try.prog 91 = some (false) := by kernel_rfl
@[go_sem] theorem tSize91 : tSize Try.prog 91 = some (1) := by kernel_rfl
@[go_sem] theorem tZero91 : tZero Try.prog 91 = some ([.v (.nilFunc)]) := by kernel_rfl
@[go_sem] theorem tAgg92 : tAgg Try.prog 92 = some (false) := by kernel_rfl
@[go_sem] theorem tSize92 : tSize Try.prog 92 = some (1) := by kernel_rfl
@[go_sem] theorem tZero92 : tZero Try.prog 92 = some ([.v (.nilFunc)]) := by kernel_rfl
@[go_sem] theorem und93 : Try.prog.underlying 93 = some (.map 9 27) := by kernel_rfl
@[go_sem] theorem tAgg93 : tAgg Try.prog 93 = some (false) := by kernel_rfl
@[go_sem] theorem tSize93 : tSize Try.prog 93 = some (1) := by kernel_rfl
@[go_sem] theorem tZero93 : tZero Try.prog 93 = some ([.v (.map none)]) := by kernel_rfl
@[go_sem] theorem tAgg95 : tAgg Try.prog 95 = some (false) := by kernel_rfl
@[go_sem] theorem tSize95 : tSize Try.prog 95 = some (1) := by kernel_rfl
@[go_sem] theorem tZero95 : tZero Try.prog 95 = some ([.v (.nilFunc)]) := by kernel_rfl
@[go_sem] theorem tAgg96 : tAgg Try.prog 96 = some (false) := by kernel_rfl
@[go_sem] theorem tSize96 : tSize Try.prog 96 = some (1) := by kernel_rfl
@[go_sem] theorem tZero96 : tZero Try.prog 96 = some ([.v (.nilFunc)]) := by kernel_rfl
@[go_sem] theorem tAgg97 : tAgg Try.prog 97 = some (false) := by kernel_rfl
@[go_sem] theorem tSize97 : tSize Try.prog 97 = some (1) := by kernel_rfl
@[go_sem] theorem tZero97 : tZero Try.prog 97 = some ([.v (.nilFunc)]) := by kernel_rfl
@[go_sem] theorem tAgg98 : tAgg Try.prog 98 = some (false) := by kernel_rfl
@[go_sem] theorem tSize98 : tSize Try.prog 98 = some (1) := by kernel_rfl
@[go_sem] theorem tZero98 : tZero Try.prog 98 = some ([.v (.nilFunc)]) := by kernel_rfl
@[go_sem] theorem tAgg99 : tAgg Try.prog 99 = some (false) := by kernel_rfl
@[go_sem] theorem tSize99 : tSize Try.prog 99 = some (1) := by kernel_rfl
@[go_sem] theorem tZero99 : tZero Try.prog 99 = some ([.v (.nilFunc)]) := by kernel_rfl
@[go_sem] theorem tAgg100 : tAgg Try.prog 100 = some (false) := by kernel_rfl
@[go_sem] theorem tSize100 : tSize Try.prog 100 = some (1) := by kernel_rfl
@[go_sem] theorem tZero100 : tZero Try.prog 100 = some ([.v (.nilFunc)]) := by kernel_rfl
@[go_sem] theorem tAgg101 : tAgg Try.prog 101 = some (false) := by kernel_rfl
@[go_sem] theorem tSize101 : tSize Try.prog 101 = some (1) := by kernel_rfl
@[go_sem] theorem tZero101 : tZero Try.prog 101 = some ([.v (.nilFunc)]) := by kernel_rfl
@[go_sem] theorem tAgg102 : tAgg Try.prog 102 = some (false) := by kernel_rfl
@[go_sem] theorem tSize102 : tSize Try.prog 102 = some (1) := by kernel_rfl
@[go_sem] theorem tZero102 : tZero Try.prog 102 = some ([.v (.nilFunc)]) := by kernel_rfl
@[go_sem] theorem tAgg103 : tAgg Try.prog 103 = some (false) := by kernel_rfl
@[go_sem] theorem tSize103 : tSize Try.prog 103 = some (1) := by kernel_rfl
@[go_sem] theorem tZero103 : tZero Try.prog 103 = some ([.v (.nilFunc)]) := by kernel_rfl
@[go_sem] theorem tAgg104 : tAgg Try.prog 104 = some (false) := by kernel_rfl
@[go_sem] theorem tSize104 : tSize Try.prog 104 = some (1) := by kernel_rfl
@[go_sem] theorem tZero104 : tZero Try.prog 104 = some ([.v (.nilFunc)]) := by kernel_rfl
@[go_sem] theorem tAgg105 : tAgg Try.prog 105 = some (false) := by kernel_rfl
@[go_sem] theorem tSize105 : tSize Try.prog 105 = some (1) := by kernel_rfl
@[go_sem] theorem tZero105 : tZero Try.prog 105 = some ([.v (.nilFunc)]) := by kernel_rfl
@[go_sem] theorem und106 : Try.prog.underlying 106 = some (.pointer 61) := by kernel_rfl
@[go_sem] theorem tAgg106 : tAgg Try.prog 106 = some (false) := by kernel_rfl
@[go_sem] theorem tSize106 : tSize Try.prog 106 = some (1) := by kernel_rfl
@[go_sem] theorem tZero106 : tZero Try.prog 106 = some ([.v (.pointer none)]) := by kernel_rfl
@[go_sem] theorem tAgg107 : tAgg Try.prog 107 = some (false) := by kernel_rfl
@[go_sem] theorem tSize107 : tSize Try.prog 107 = some (1) := by kernel_rfl
@[go_sem] theorem tZero107 : tZero Try.prog 107 = some ([.v (.nilFunc)]) := by kernel_rfl
@[go_sem] theorem und108 : Try.prog.underlying 108 = some (.pointer 55) := by kernel_rfl
@[go_sem] theorem tAgg108 : tAgg Try.prog 108 = some (false) := by kernel_rfl
@[go_sem] theorem tSize108 : tSize Try.prog 108 = some (1) := by kernel_rfl
@[go_sem] theorem tZero108 : tZero Try.prog 108 = some ([.v (.pointer none)]) := by kernel_rfl
@[go_sem] theorem tAgg109 : tAgg Try.prog 109 = some (false) := by kernel_rfl
@[go_sem] theorem tSize109 : tSize Try.prog 109 = some (1) := by kernel_rfl
@[go_sem] theorem tZero109 : tZero Try.prog 109 = some ([.v (.nilFunc)]) := by kernel_rfl
@[go_sem] theorem tAgg110 : tAgg Try.prog 110 = some (false) := by kernel_rfl
@[go_sem] theorem tSize110 : tSize Try.prog 110 = some (1) := by kernel_rfl
@[go_sem] theorem tZero110 : tZero Try.prog 110 = some ([.v (.nilFunc)]) := by kernel_rfl
@[go_sem] theorem tAgg111 : tAgg Try.prog 111 = some (false) := by kernel_rfl
@[go_sem] theorem tSize111 : tSize Try.prog 111 = some (1) := by kernel_rfl
@[go_sem] theorem tZero111 : tZero Try.prog 111 = some ([.v (.nilFunc)]) := by kernel_rfl
@[go_sem] theorem tAgg112 : tAgg Try.prog 112 = some (false) := by kernel_rfl
@[go_sem] theorem tSize112 : tSize Try.prog 112 = some (1) := by kernel_rfl
@[go_sem] theorem tZero112 : tZero Try.prog 112 = some ([.v (.nilFunc)]) := by kernel_rfl
@[go_sem] theorem tAgg113 : tAgg Try.prog 113 = some (false) := by kernel_rfl
@[go_sem] theorem tSize113 : tSize Try.prog 113 = some (1) := by kernel_rfl
@[go_sem] theorem tZero113 : tZero Try.prog 113 = some ([.v (.nilFunc)]) := by kernel_rfl
@[go_sem] theorem tAgg114 : tAgg Try.prog 114 = some (false) := by kernel_rfl
@[go_sem] theorem tSize114 : tSize Try.prog 114 = some (1) := by kernel_rfl
@[go_sem] theorem tZero114 : tZero Try.prog 114 = some ([.v (.nilFunc)]) := by kernel_rfl
@[go_sem] theorem tAgg115 : tAgg Try.prog 115 = some (false) := by kernel_rfl
@[go_sem] theorem tSize115 : tSize Try.prog 115 = some (1) := by kernel_rfl
@[go_sem] theorem tZero115 : tZero Try.prog 115 = some ([.v (.nilFunc)]) := by kernel_rfl
@[go_sem] theorem tAgg116 : tAgg Try.prog 116 = some (false) := by kernel_rfl
@[go_sem] theorem tSize116 : tSize Try.prog 116 = some (1) := by kernel_rfl
@[go_sem] theorem tZero116 : tZero Try.prog 116 = some ([.v (.nilFunc)]) := by kernel_rfl
@[go_sem] theorem tAgg117 : tAgg Try.prog 117 = some (false) := by kernel_rfl
@[go_sem] theorem tSize117 : tSize Try.prog 117 = some (1) := by kernel_rfl
@[go_sem] theorem tZero117 : tZero Try.prog 117 = some ([.v (.nilFunc)]) := by kernel_rfl
@[go_sem] theorem tAgg118 : tAgg Try.prog 118 = some (false) := by kernel_rfl
@[go_sem] theorem tSize118 : tSize Try.prog 118 = some (1) := by kernel_rfl
@[go_sem] theorem tZero118 : tZero Try.prog 118 = some ([.v (.nilFunc)]) := by kernel_rfl
@[go_sem] theorem tAgg119 : tAgg Try.prog 119 = some (false) := by kernel_rfl
@[go_sem] theorem tSize119 : tSize Try.prog 119 = some (1) := by kernel_rfl
@[go_sem] theorem tZero119 : tZero Try.prog 119 = some ([.v (.nilFunc)]) := by kernel_rfl
@[go_sem] theorem tAgg120 : tAgg Try.prog 120 = some (false) := by kernel_rfl
@[go_sem] theorem tSize120 : tSize Try.prog 120 = some (1) := by kernel_rfl
@[go_sem] theorem tZero120 : tZero Try.prog 120 = some ([.v (.nilFunc)]) := by kernel_rfl
@[go_sem] theorem tAgg121 : tAgg Try.prog 121 = some (false) := by kernel_rfl
@[go_sem] theorem tSize121 : tSize Try.prog 121 = some (1) := by kernel_rfl
@[go_sem] theorem tZero121 : tZero Try.prog 121 = some ([.v (.nilFunc)]) := by kernel_rfl
@[go_sem] theorem tAgg122 : tAgg Try.prog 122 = some (false) := by kernel_rfl
@[go_sem] theorem tSize122 : tSize Try.prog 122 = some (1) := by kernel_rfl
@[go_sem] theorem tZero122 : tZero Try.prog 122 = some ([.v (.nilFunc)]) := by kernel_rfl
@[go_sem] theorem tAgg123 : tAgg Try.prog 123 = some (false) := by kernel_rfl
@[go_sem] theorem tSize123 : tSize Try.prog 123 = some (1) := by kernel_rfl
@[go_sem] theorem tZero123 : tZero Try.prog 123 = some ([.v (.nilFunc)]) := by kernel_rfl
@[go_sem] theorem und124 : Try.prog.underlying 124 = some (.int .u64) := by kernel_rfl
@[go_sem] theorem tAgg124 : tAgg Try.prog 124 = some (false) := by kernel_rfl
@[go_sem] theorem tSize124 : tSize Try.prog 124 = some (1) := by kernel_rfl
@[go_sem] theorem tZero124 : tZero Try.prog 124 = some ([.v (.int .u64 0)]) := by kernel_rfl
@[go_sem] theorem tAgg125 : tAgg Try.prog 125 = some (false) := by kernel_rfl
@[go_sem] theorem tSize125 : tSize Try.prog 125 = some (1) := by kernel_rfl
@[go_sem] theorem tZero125 : tZero Try.prog 125 = some ([.v (.nilFunc)]) := by kernel_rfl
@[go_sem] theorem tAgg126 : tAgg Try.prog 126 = some (false) := by kernel_rfl
@[go_sem] theorem tSize126 : tSize Try.prog 126 = some (1) := by kernel_rfl
@[go_sem] theorem tZero126 : tZero Try.prog 126 = some ([.v (.nilFunc)]) := by kernel_rfl
@[go_sem] theorem tAgg127 : tAgg Try.prog 127 = some (false) := by kernel_rfl
@[go_sem] theorem tSize127 : tSize Try.prog 127 = some (1) := by kernel_rfl
@[go_sem] theorem tZero127 : tZero Try.prog 127 = some ([.v (.nilFunc)]) := by kernel_rfl
@[go_sem] theorem tAgg128 : tAgg Try.prog 128 = some (false) := by kernel_rfl
@[go_sem] theorem tSize128 : tSize Try.prog 128 = some (1) := by kernel_rfl
@[go_sem] theorem tZero128 : tZero Try.prog 128 = some ([.v (.nilFunc)]) := by kernel_rfl
@[go_sem] theorem tAgg129 : tAgg Try.prog 129 = some (false) := by kernel_rfl
@[go_sem] theorem tSize129 : tSize Try.prog 129 = some (1) := by kernel_rfl
@[go_sem] theorem tZero129 : tZero Try.prog 129 = some ([.v (.nilFunc)]) := by kernel_rfl
@[go_sem] theorem tAgg130 : tAgg Try.prog 130 = some (false) := by kernel_rfl
@[go_sem] theorem tSize130 : tSize Try.prog 130 = some (1) := by kernel_rfl
@[go_sem] theorem tZero130 : tZero Try.prog 130 = some ([.v (.nilFunc)]) := by kernel_rfl
@[go_sem] theorem tAgg131 : tAgg Try.prog 131 = some (false) := by kernel_rfl
@[go_sem] theorem tSize131 : tSize Try.prog 131 = some (1) := by kernel_rfl
@[go_sem] theorem tZero131 : tZero Try.prog 131 = some ([.v (.nilFunc)]) := by kernel_rfl
@[go_sem] theorem tAgg132 : tAgg Try.prog 132 = some (false) := by kernel_rfl
@[go_sem] theorem tSize132 : tSize Try.prog 132 = some (1) := by kernel_rfl
@[go_sem] theorem tZero132 : tZero Try.prog 132 = some ([.v (.nilFunc)]) := by kernel_rfl
@[go_sem] theorem tAgg133 : tAgg Try.prog 133 = some (false) := by kernel_rfl
@[go_sem] theorem tSize133 : tSize Try.prog 133 = some (1) := by kernel_rfl
@[go_sem] theorem tZero133 : tZero Try.prog 133 = some ([.v (.nilFunc)]) := by kernel_rfl
@[go_sem] theorem tAgg134 : tAgg Try.prog 134 = some (false) := by kernel_rfl
@[go_sem] theorem tSize134 : tSize Try.prog 134 = some (1) := by kernel_rfl
@[go_sem] theorem tZero134 : tZero Try.prog 134 = some ([.v (.nilFunc)]) := by kernel_rfl
@[go_sem] theorem tAgg135 : tAgg Try.prog 135 = some (false) := by kernel_rfl
@[go_sem] theorem tSize135 : tSize Try.prog 135 = some (1) := by kernel_rfl
@[go_sem] theorem tZero135 : tZero Try.prog 135 = some ([.v (.nilFunc)]) := by kernel_rfl
@[go_sem] theorem tAgg136 : tAgg Try.prog 136 = some (false) := by kernel_rfl
@[go_sem] theorem tSize136 : tSize Try.prog 136 = some (1) := by kernel_rfl
@[go_sem] theorem tZero136 : tZero Try.prog 136 = some ([.v (.nilFunc)]) := by kernel_rfl
@[go_sem] theorem tAgg142 : tAgg Try.prog 142 = some (false) := by kernel_rfl
@[go_sem] theorem tSize142 : tSize Try.prog 142 = some (1) := by kernel_rfl
@[go_sem] theorem tZero142 : tZero Try.prog 142 = some ([.v (.nilFunc)]) := by kernel_rfl
@[go_sem] theorem und143 : Try.prog.underlying 143 = some (.int .u32) := by kernel_rfl
@[go_sem] theorem tAgg143 : tAgg Try.prog 143 = some (false) := by kernel_rfl
@[go_sem] theorem tSize143 : tSize Try.prog 143 = some (1) := by kernel_rfl
@[go_sem] theorem tZero143 : tZero Try.prog 143 = some ([.v (.int .u32 0)]) := by kernel_rfl
@[go_sem] theorem und147 : Try.prog.underlying 147 = some (.pointer 5) := by kernel_rfl
@[go_sem] theorem tAgg147 : tAgg Try.prog 147 = some (false) := by kernel_rfl
@[go_sem] theorem tSize147 : tSize Try.prog 147 = some (1) := by kernel_rfl
@[go_sem] theorem tZero147 : tZero Try.prog 147 = some ([.v (.pointer none)]) := by kernel_rfl
end Go.Proofs.Yteihcfhdhkamfaa
