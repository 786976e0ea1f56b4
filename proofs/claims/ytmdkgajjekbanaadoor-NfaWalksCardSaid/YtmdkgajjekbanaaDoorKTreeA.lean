/- Facts on the types of the program, each by the kernel (printed by a program of ours). -/
import Derived.KernelRfl
import Derived.Test.YtmdkgajjekbanaaDoorProg
import Derived.Test.YtmdkgajjekbanaaDoorKAbsJ
import Derived.Test.YtmdkgajjekbanaaDoorKBase
import Derived.Test.YtmdkgajjekbanaaDoorKValue
namespace Go.Proofs.YtmdkgajjekbanaaDoor

@[go_sem] theorem und3 : Tryd.prog.underlying 3 = some (.int .i64) := by kernel_rfl
@[go_sem] theorem tAgg3 : tAgg Tryd.prog 3 = some (false) := by kernel_rfl
@[go_sem] theorem tSize3 : tSize Tryd.prog 3 = some (1) := by kernel_rfl
@[go_sem] theorem tZero3 : tZero Tryd.prog 3 = some ([.v (.int .i64 0)]) := by kernel_rfl
@[go_sem] theorem und4 : Tryd.prog.underlying 4 = some (.bool) := by kernel_rfl
@[go_sem] theorem tAgg4 : tAgg Tryd.prog 4 = some (false) := by kernel_rfl
@[go_sem] theorem tSize4 : tSize Tryd.prog 4 = some (1) := by kernel_rfl
@[go_sem] theorem und5 : Tryd.prog.underlying 5 = some (.int .u8) := by kernel_rfl
@[go_sem] theorem tAgg5 : tAgg Tryd.prog 5 = some (false) := by kernel_rfl
@[go_sem] theorem tSize5 : tSize Tryd.prog 5 = some (1) := by kernel_rfl
@[go_sem] theorem tAgg9 : tAgg Tryd.prog 9 = some (false) := by kernel_rfl
@[go_sem] theorem tSize9 : tSize Tryd.prog 9 = some (1) := by kernel_rfl
@[go_sem] theorem tZero9 : tZero Tryd.prog 9 = some ([.v (.string ⟨#[]⟩)]) := by kernel_rfl
@[go_sem] theorem tAgg22 : tAgg Tryd.prog 22 = some (false) := by kernel_rfl
@[go_sem] theorem tSize22 : tSize Tryd.prog 22 = some (1) := by kernel_rfl
@[go_sem] theorem und23 : Tryd.prog.underlying 23 = some (.slice 25) := by kernel_rfl
@[go_sem] theorem tAgg23 : tAgg Tryd.prog 23 = some (false) := by kernel_rfl
@[go_sem] theorem tSize23 : tSize Tryd.prog 23 = some (1) := by kernel_rfl
@[go_sem] theorem tApp23 : tApp Tryd.prog 23 = some (25, 3, 48) := by kernel_rfl
@[go_sem] theorem tAgg25 : tAgg Tryd.prog 25 = some (true) := by kernel_rfl
@[go_sem] theorem tSize25 : tSize Tryd.prog 25 = some (3) := by kernel_rfl
@[go_sem] theorem tZero25 : tZero Tryd.prog 25 = some ([.v (.int .i64 0), .v (.string ⟨#[]⟩), .v (.slice none 0 0)]) := by kernel_rfl
@[go_sem] theorem tFld25f0 : tFld Tryd.prog 25 0 = some (0) := by kernel_rfl
@[go_sem] theorem tFld25f1 : tFld Tryd.prog 25 1 = some (1) := by kernel_rfl
@[go_sem] theorem tFld25f2 : tFld Tryd.prog 25 2 = some (2) := by kernel_rfl
@[go_sem] theorem tPl25 : tPl Tryd.prog 25 = some ([(0, 1), (1, 1), (2, 1)], [.v (.int .i64 0), .v (.string ⟨#[]⟩), .v (.slice none 0 0)]) := by kernel_rfl
@[go_sem] theorem und29 : Tryd.prog.underlying 29 = some (.pointer 72) := by kernel_rfl
@[go_sem] theorem tAgg29 : tAgg Tryd.prog 29 = some (false) := by kernel_rfl
@[go_sem] theorem tSize29 : tSize Tryd.prog 29 = some (1) := by kernel_rfl
@[go_sem] theorem und37 : Tryd.prog.underlying 37 = some (.slice 3) := by kernel_rfl
@[go_sem] theorem tAgg37 : tAgg Tryd.prog 37 = some (false) := by kernel_rfl
@[go_sem] theorem tSize37 : tSize Tryd.prog 37 = some (1) := by kernel_rfl
@[go_sem] theorem tZero37 : tZero Tryd.prog 37 = some ([.v (.slice none 0 0)]) := by kernel_rfl
@[go_sem] theorem tApp37 : tApp Tryd.prog 37 = some (3, 1, 8) := by kernel_rfl
@[go_sem] theorem und41 : Tryd.prog.underlying 41 = some (.slice 9) := by kernel_rfl
@[go_sem] theorem tAgg41 : tAgg Tryd.prog 41 = some (false) := by kernel_rfl
@[go_sem] theorem tSize41 : tSize Tryd.prog 41 = some (1) := by kernel_rfl
@[go_sem] theorem tApp41 : tApp Tryd.prog 41 = some (9, 1, 16) := by kernel_rfl
@[go_sem] theorem tAgg69 : tAgg Tryd.prog 69 = some (false) := by kernel_rfl
@[go_sem] theorem tSize69 : tSize Tryd.prog 69 = some (1) := by kernel_rfl
@[go_sem] theorem tZero69 : tZero Tryd.prog 69 = some ([.v (.int .u32 0)]) := by kernel_rfl
@[go_sem] theorem und70 : Tryd.prog.underlying 70 = some (.array 25 69) := by kernel_rfl
@[go_sem] theorem tFld72f0 : tFld Tryd.prog 72 0 = some (0) := by kernel_rfl
@[go_sem] theorem tFld72f1 : tFld Tryd.prog 72 1 = some (1) := by kernel_rfl
@[go_sem] theorem tFld72f2 : tFld Tryd.prog 72 2 = some (26) := by kernel_rfl
@[go_sem] theorem tFld72f3 : tFld Tryd.prog 72 3 = some (27) := by kernel_rfl
@[go_sem] theorem tPl72 : tPl Tryd.prog 72 = some ([(0, 1), (1, 25), (26, 1), (27, 1)], [.v (.slice none 0 0), .v (.int .u32 0), .v (.int .u32 0), .v (.int .u32 0), .v (.int .u32 0), .v (.int .u32 0), .v (.int .u32 0), .v (.int .u32 0), .v (.int .u32 0), .v (.int .u32 0), .v (.int .u32 0), .v (.int .u32 0), .v (.int .u32 0), .v (.int .u32 0), .v (.int .u32 0), .v (.int .u32 0), .v (.int .u32 0), .v (.int .u32 0), .v (.int .u32 0), .v (.int .u32 0), .v (.int .u32 0), .v (.int .u32 0), .v (.int .u32 0), .v (.int .u32 0), .v (.int .u32 0), .v (.int .u32 0), .v (.int .u32 0), .v (.bool false)]) := by kernel_rfl
@[go_sem] theorem tAgg74 : tAgg Tryd.prog 74 = some (true) := by kernel_rfl
@[go_sem] theorem tSize74 : tSize Tryd.prog 74 = some (2) := by kernel_rfl
@[go_sem] theorem tZero74 : tZero Tryd.prog 74 = some ([.v (.int .u32 0), .v (.int .u32 0)]) := by kernel_rfl
@[go_sem] theorem tFld74f0 : tFld Tryd.prog 74 0 = some (0) := by kernel_rfl
@[go_sem] theorem tFld74f1 : tFld Tryd.prog 74 1 = some (1) := by kernel_rfl
@[go_sem] theorem tPl74 : tPl Tryd.prog 74 = some ([(0, 1), (1, 1)], [.v (.int .u32 0), .v (.int .u32 0)]) := by kernel_rfl
@[go_sem] theorem und86 : Tryd.prog.underlying 86 = some (.slice 3) := by kernel_rfl
@[go_sem] theorem tAgg86 : tAgg Tryd.prog 86 = some (false) := by kernel_rfl
@[go_sem] theorem tSize86 : tSize Tryd.prog 86 = some (1) := by kernel_rfl
@[go_sem] theorem tZero86 : tZero Tryd.prog 86 = some ([.v (.slice none 0 0)]) := by kernel_rfl
@[go_sem] theorem tApp86 : tApp Tryd.prog 86 = some (3, 1, 8) := by kernel_rfl
@[go_sem] theorem tAgg88 : tAgg Tryd.prog 88 = some (true) := by kernel_rfl
@[go_sem] theorem tSize88 : tSize Tryd.prog 88 = some (1) := by kernel_rfl
@[go_sem] theorem tFld88f0 : tFld Tryd.prog 88 0 = some (0) := by kernel_rfl
@[go_sem] theorem tPl88 : tPl Tryd.prog 88 = some ([(0, 1)], [.v (.slice none 0 0)]) := by kernel_rfl
@[go_sem] theorem und114 : Tryd.prog.underlying 114 = some (.slice 86) := by kernel_rfl
@[go_sem] theorem tApp114 : tApp Tryd.prog 114 = some (86, 1, 24) := by kernel_rfl
@[go_sem] theorem und120 : Tryd.prog.underlying 120 = some (.array 32 5) := by kernel_rfl
end Go.Proofs.YtmdkgajjekbanaaDoor

/- '==' and '!=' on the plain structs: cell by cell. -/
namespace Go.Proofs.YtmdkgajjekbanaaDoor
open Go.RowKit

end Go.Proofs.YtmdkgajjekbanaaDoor

/- tree.between, tree.Operand -/
namespace Go.Proofs.YtmdkgajjekbanaaDoor
open Go.RowKit

end Go.Proofs.YtmdkgajjekbanaaDoor
