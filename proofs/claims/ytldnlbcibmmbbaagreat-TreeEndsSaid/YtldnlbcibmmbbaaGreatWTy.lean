/- How the data of a row lie in memory: what the row's reading says, in words of our readings. -/
import Derived.Test.YtldnlbcibmmbbaaGreatWBase
import Derived.ChangeArms
import Derived.Deep.Slices
import Derived.KernelRfl
import Derived.SizedLaws
import Derived.Test.YtldnlbcibmmbbaaGreatProg
import Derived.Test.YtldnlbcibmmbbaaGreatRows
import Derived.Test.YtldnlbcibmmbbaaGreatWAbsN
import Derived.Test.YtldnlbcibmmbbaaGreatWEnc
import Derived.WalkKit
import Derived.ProofKit
import Derived.OpenShut
import Derived.Test.YtldnlbcibmmbbaaGreatWAbsJ
set_option linter.unusedSimpArgs false
set_option linter.unusedVariables false
namespace Go.Proofs.YtldnlbcibmmbbaaGreat
open Go.RowKit Go.ChangeShapes Go.Deep
def IG (P:Program) (t:TypeId):Option (List (TypeId×Nat×Nat)):=match P.underlying t with
 | some (.struct fs)=>some (fs.toList.map fun f=>(f.type,f.offset,P.cellsOf f.type))
 | _=>none
section
variable {H:Type} {enc:TypeId×Value→H} {P:Program} {w:World}
def Td (enc:TypeId×Value→H) (P:Program) (w:World) (n:Nat) (t:TypeId) (cs:List Value):Prop:= ∃y,DataW.trod enc P w 0 (fun _=>true) true n t cs=some y∧ ∀k∈y.1.weights P t,k≤reachBytes
end
/-! ### the data of this program -/
section
variable {H:Type} {enc:TypeId×Value→H} {w:World}
instance:Inhabited Ex:=⟨.mk 0 ⟨#[]⟩ []⟩
instance:Inhabited cg:=⟨⟨0,⟨#[]⟩,⟨#[]⟩,⟨0,0,⟨#[]⟩⟩⟩⟩
instance:Inhabited ew:=⟨⟨0,default,default⟩⟩
instance:Inhabited cQ:=⟨⟨⟨#[]⟩,⟨#[]⟩,false,⟨#[]⟩,⟨#[]⟩,default⟩⟩
end
open Go.ChangeShapes Go.WideShapes Go.ChangeAt Go.RowKit
theorem ai.DB {P:Program} {f:FuncId} {args:List AV} {v:Value} (h:ai P f args (.v v)) {w:World} {vargs:Array Value} (hr:gb (fun _=>True) (fun _ _=>Go.undef) [] w args vargs) (hG:dD (fun _=>True) (fun _ _=>Go.undef) [] w:=by exact fun g T cs hg=>by cases hg) :
  Calls P f vargs w (fU w v):=by
 refine (h.2.2 _ _ w vargs (RO.nil _ _ _ (fun _ _=>trivial) hG) hr).mono fun e w' hf=> ?_
 obtain ⟨x,nu',o',r,rfl,hm,_,hx,rfl,rfl⟩:=hf
 have e1:=hx.bj
 subst e1
 exact ⟨rfl,hm.os,hm.tape,hm.output,hm.size,fun b hb=>(hm.keep b hb (bf _ _)).1⟩
section
variable {H:Type} {enc:TypeId×Value→H} {w:World}
end
@[go_sem] theorem II:Tryz.prog.underlying 3=some (.int .i64):=by kernel_rfl
@[go_sem] theorem Hr:dY Tryz.prog 3=some (false):=by kernel_rfl
@[go_sem] theorem GW:bQ Tryz.prog 3=some (1):=by kernel_rfl
@[go_sem] theorem GA:dj Tryz.prog 3=some ([.v (.int .i64 0)]):=by kernel_rfl
@[go_sem] theorem IJ:Tryz.prog.underlying 4=some (.bool):=by kernel_rfl
@[go_sem] theorem Ib:dY Tryz.prog 4=some (false):=by kernel_rfl
@[go_sem] theorem Hg:bQ Tryz.prog 4=some (1):=by kernel_rfl
@[go_sem] theorem IN:Tryz.prog.underlying 5=some (.int .u8):=by kernel_rfl
@[go_sem] theorem G8:dj Tryz.prog 5=some ([.v (.int .u8 0)]):=by kernel_rfl
@[go_sem] theorem Iz:Tryz.prog.underlying 9=some (.string):=by kernel_rfl
@[go_sem] theorem Hy:dY Tryz.prog 9=some (false):=by kernel_rfl
@[go_sem] theorem G7:bQ Tryz.prog 9=some (1):=by kernel_rfl
@[go_sem] theorem GV:dj Tryz.prog 9=some ([.v (.string ⟨#[]⟩)]):=by kernel_rfl
@[go_sem] theorem Ip:Tryz.prog.underlying 22=some (.slice 45):=by kernel_rfl
@[go_sem] theorem GR:dY Tryz.prog 22=some (false):=by kernel_rfl
@[go_sem] theorem Gh:bQ Tryz.prog 22=some (1):=by kernel_rfl
@[go_sem] theorem Ig:BQ Tryz.prog 22=some (8):=by kernel_rfl
@[go_sem] theorem GF:iW Tryz.prog 22=some (45,8,120):=by kernel_rfl
@[go_sem] theorem Hw:Tryz.prog.underlying 23=some (.slice 37):=by kernel_rfl
@[go_sem] theorem Gw:dY Tryz.prog 23=some (false):=by kernel_rfl
@[go_sem] theorem FN:bQ Tryz.prog 23=some (1):=by kernel_rfl
@[go_sem] theorem Hu:BQ Tryz.prog 23=some (13):=by kernel_rfl
@[go_sem] theorem Hh:iW Tryz.prog 23=some (37,13,152):=by kernel_rfl
@[go_sem] theorem HU:Tryz.prog.underlying 24=some (.slice 34):=by kernel_rfl
@[go_sem] theorem Gr:dY Tryz.prog 24=some (false):=by kernel_rfl
@[go_sem] theorem Gm:bQ Tryz.prog 24=some (1):=by kernel_rfl
@[go_sem] theorem Ih:BQ Tryz.prog 24=some (6):=by kernel_rfl
@[go_sem] theorem Gu:iW Tryz.prog 24=some (34,6,72):=by kernel_rfl
@[go_sem] theorem GY:dY Tryz.prog 26=some (true):=by kernel_rfl
@[go_sem] theorem Gk:bQ Tryz.prog 26=some (5):=by kernel_rfl
@[go_sem] theorem FP:dj Tryz.prog 26=some ([.v (.slice none 0 0), .v (.slice none 0 0), .v (.slice none 0 0), .v (.int .i64 0), .v (.int .i64 0)]):=by kernel_rfl
@[go_sem] theorem E0:fO Tryz.prog 26 0=some (0):=by kernel_rfl
@[go_sem] theorem E9:fO Tryz.prog 26 1=some (1):=by kernel_rfl
@[go_sem] theorem EI:fO Tryz.prog 26 2=some (2):=by kernel_rfl
@[go_sem] theorem FG:fO Tryz.prog 26 3=some (3):=by kernel_rfl
@[go_sem] theorem ET:fO Tryz.prog 26 4=some (4):=by kernel_rfl
@[go_sem] theorem Ii:Dh Tryz.prog 26=some ([(0,1),(1,1),(2,1),(3,1),(4,1)],[.v (.slice none 0 0), .v (.slice none 0 0), .v (.slice none 0 0), .v (.int .i64 0), .v (.int .i64 0)]):=by kernel_rfl
@[go_sem] theorem Ik:Tryz.prog.underlying 28=some (.int .i64):=by kernel_rfl
@[go_sem] theorem Hq:dY Tryz.prog 28=some (false):=by kernel_rfl
@[go_sem] theorem F6:bQ Tryz.prog 28=some (1):=by kernel_rfl
@[go_sem] theorem Ht:Tryz.prog.underlying 29=some (.int .i64):=by kernel_rfl
@[go_sem] theorem GI:dY Tryz.prog 29=some (false):=by kernel_rfl
@[go_sem] theorem Gj:bQ Tryz.prog 29=some (1):=by kernel_rfl
@[go_sem] theorem Hd:dY Tryz.prog 30=some (false):=by kernel_rfl
@[go_sem] theorem Gg:bQ Tryz.prog 30=some (1):=by kernel_rfl
@[go_sem] theorem GD:dY Tryz.prog 32=some (true):=by kernel_rfl
@[go_sem] theorem Gq:bQ Tryz.prog 32=some (3):=by kernel_rfl
@[go_sem] theorem FE:fO Tryz.prog 32 0=some (0):=by kernel_rfl
@[go_sem] theorem E5:fO Tryz.prog 32 1=some (1):=by kernel_rfl
@[go_sem] theorem EY:fO Tryz.prog 32 2=some (2):=by kernel_rfl
@[go_sem] theorem Ij:Dh Tryz.prog 32=some ([(0,1),(1,1),(2,1)],[.v (.int .i64 0), .v (.int .i64 0), .v (.string ⟨#[]⟩)]):=by kernel_rfl
@[go_sem] theorem Ho:zA Tryz.prog 32=some ([.i, .i, .s]):=by kernel_rfl
@[go_sem] theorem G9:dY Tryz.prog 34=some (true):=by kernel_rfl
@[go_sem] theorem Gp:bQ Tryz.prog 34=some (6):=by kernel_rfl
@[go_sem] theorem F0:dj Tryz.prog 34=some ([.v (.int .i64 0), .v (.string ⟨#[]⟩), .v (.string ⟨#[]⟩), .v (.int .i64 0), .v (.int .i64 0), .v (.string ⟨#[]⟩)]):=by kernel_rfl
@[go_sem] theorem E4:fO Tryz.prog 34 0=some (0):=by kernel_rfl
@[go_sem] theorem Fp:fO Tryz.prog 34 1=some (1):=by kernel_rfl
@[go_sem] theorem Fo:fO Tryz.prog 34 2=some (2):=by kernel_rfl
@[go_sem] theorem EH:fO Tryz.prog 34 3=some (3):=by kernel_rfl
@[go_sem] theorem Ie:Dh Tryz.prog 34=some ([(0,1),(1,1),(2,1),(3,3)],[.v (.int .i64 0), .v (.string ⟨#[]⟩), .v (.string ⟨#[]⟩), .v (.int .i64 0), .v (.int .i64 0), .v (.string ⟨#[]⟩)]):=by kernel_rfl
@[go_sem] theorem Hk:zA Tryz.prog 34=some ([.i, .s, .s, .i, .i, .s]):=by kernel_rfl
@[go_sem] theorem GN:dY Tryz.prog 37=some (true):=by kernel_rfl
@[go_sem] theorem Gn:bQ Tryz.prog 37=some (13):=by kernel_rfl
@[go_sem] theorem F9:dj Tryz.prog 37=some ([.v (.int .i64 0), .v (.int .i64 0), .v (.string ⟨#[]⟩), .v (.string ⟨#[]⟩), .v (.int .i64 0), .v (.int .i64 0), .v (.string ⟨#[]⟩), .v (.int .i64 0), .v (.string ⟨#[]⟩), .v (.string ⟨#[]⟩), .v (.int .i64 0), .v (.int .i64 0), .v (.string ⟨#[]⟩)]):=by kernel_rfl
@[go_sem] theorem EJ:fO Tryz.prog 37 0=some (0):=by kernel_rfl
@[go_sem] theorem Fm:fO Tryz.prog 37 1=some (1):=by kernel_rfl
@[go_sem] theorem EO:fO Tryz.prog 37 2=some (7):=by kernel_rfl
@[go_sem] theorem H5:Dh Tryz.prog 37=some ([(0,1),(1,6),(7,6)],[.v (.int .i64 0), .v (.int .i64 0), .v (.string ⟨#[]⟩), .v (.string ⟨#[]⟩), .v (.int .i64 0), .v (.int .i64 0), .v (.string ⟨#[]⟩), .v (.int .i64 0), .v (.string ⟨#[]⟩), .v (.string ⟨#[]⟩), .v (.int .i64 0), .v (.int .i64 0), .v (.string ⟨#[]⟩)]):=by kernel_rfl
@[go_sem] theorem Hp:zA Tryz.prog 37=some ([.i, .i, .s, .s, .i, .i, .s, .i, .s, .s, .i, .i, .s]):=by kernel_rfl
@[go_sem] theorem H9:Tryz.prog.underlying 38=some (.slice 9):=by kernel_rfl
@[go_sem] theorem Gv:dY Tryz.prog 38=some (false):=by kernel_rfl
@[go_sem] theorem Gb:bQ Tryz.prog 38=some (1):=by kernel_rfl
@[go_sem] theorem Ge:dj Tryz.prog 38=some ([.v (.slice none 0 0)]):=by kernel_rfl
@[go_sem] theorem Iv:BQ Tryz.prog 38=some (1):=by kernel_rfl
@[go_sem] theorem GK:iW Tryz.prog 38=some (9,1,16):=by kernel_rfl
@[go_sem] theorem Hm:dY Tryz.prog 40=some (false):=by kernel_rfl
@[go_sem] theorem Gc:bQ Tryz.prog 40=some (1):=by kernel_rfl
@[go_sem] theorem Il:Tryz.prog.underlying 41=some (.slice 43):=by kernel_rfl
@[go_sem] theorem GX:dY Tryz.prog 41=some (false):=by kernel_rfl
@[go_sem] theorem FI:bQ Tryz.prog 41=some (1):=by kernel_rfl
@[go_sem] theorem It:BQ Tryz.prog 41=some (3):=by kernel_rfl
@[go_sem] theorem GO:iW Tryz.prog 41=some (43,3,48):=by kernel_rfl
@[go_sem] theorem Hn:dY Tryz.prog 43=some (true):=by kernel_rfl
@[go_sem] theorem F8:bQ Tryz.prog 43=some (3):=by kernel_rfl
@[go_sem] theorem FQ:dj Tryz.prog 43=some ([.v (.int .i64 0), .v (.string ⟨#[]⟩), .v (.slice none 0 0)]):=by kernel_rfl
@[go_sem] theorem EZ:fO Tryz.prog 43 0=some (0):=by kernel_rfl
@[go_sem] theorem FD:fO Tryz.prog 43 1=some (1):=by kernel_rfl
@[go_sem] theorem Fw:fO Tryz.prog 43 2=some (2):=by kernel_rfl
@[go_sem] theorem Ir:Dh Tryz.prog 43=some ([(0,1),(1,1),(2,1)],[.v (.int .i64 0), .v (.string ⟨#[]⟩), .v (.slice none 0 0)]):=by kernel_rfl
@[go_sem] theorem Gt:dY Tryz.prog 45=some (true):=by kernel_rfl
@[go_sem] theorem FZ:bQ Tryz.prog 45=some (8):=by kernel_rfl
@[go_sem] theorem FH:dj Tryz.prog 45=some ([.v (.string ⟨#[]⟩), .v (.string ⟨#[]⟩), .v (.bool false), .v (.string ⟨#[]⟩), .v (.string ⟨#[]⟩), .v (.int .i64 0), .v (.string ⟨#[]⟩), .v (.slice none 0 0)]):=by kernel_rfl
@[go_sem] theorem EB:fO Tryz.prog 45 0=some (0):=by kernel_rfl
@[go_sem] theorem E1:fO Tryz.prog 45 1=some (1):=by kernel_rfl
@[go_sem] theorem Fy:fO Tryz.prog 45 2=some (2):=by kernel_rfl
@[go_sem] theorem Fk:fO Tryz.prog 45 3=some (3):=by kernel_rfl
@[go_sem] theorem ED:fO Tryz.prog 45 4=some (4):=by kernel_rfl
@[go_sem] theorem EK:fO Tryz.prog 45 5=some (5):=by kernel_rfl
@[go_sem] theorem Iq:Dh Tryz.prog 45=some ([(0,1),(1,1),(2,1),(3,1),(4,1),(5,3)],[.v (.string ⟨#[]⟩), .v (.string ⟨#[]⟩), .v (.bool false), .v (.string ⟨#[]⟩), .v (.string ⟨#[]⟩), .v (.int .i64 0), .v (.string ⟨#[]⟩), .v (.slice none 0 0)]):=by kernel_rfl
@[go_sem] theorem Ic:Tryz.prog.underlying 48=some (.slice 3):=by kernel_rfl
@[go_sem] theorem Hf:iW Tryz.prog 48=some (3,1,8):=by kernel_rfl
@[go_sem] theorem Im:Tryz.prog.underlying 49=some (.slice 26):=by kernel_rfl
@[go_sem] theorem GQ:iW Tryz.prog 49=some (26,5,88):=by kernel_rfl
@[go_sem] theorem GC:dY Tryz.prog 90=some (false):=by kernel_rfl
@[go_sem] theorem F5:bQ Tryz.prog 90=some (1):=by kernel_rfl
@[go_sem] theorem Gd:dj Tryz.prog 90=some ([.v (.nilFunc)]):=by kernel_rfl
@[go_sem] theorem G6:Tryz.prog.underlying 111=some (.slice 5):=by kernel_rfl
@[go_sem] theorem FT:iW Tryz.prog 111=some (5,1,1):=by kernel_rfl
end Go.Proofs.YtldnlbcibmmbbaaGreat
