/- texts of one claim, one behind the other. -/
import Derived.KernelRfl
import Derived.Test.YtjcobjgjjlahdaaGreatDoorProg
import Derived.Test.YtjcobjgjjlahdaaGreatDoorJAbsJ
import Derived.Test.YtjcobjgjjlahdaaGreatDoorJFen
import Derived.Test.YtjcobjgjjlahdaaGreatDoorJVerts
import Derived.StillTailTactics
set_option linter.unusedSimpArgs false
set_option linter.unusedVariables false
set_option maxRecDepth 100000
set_option maxHeartbeats 16000000
open Array renaming replicate_succ -> SG, replicate_zero -> SH, getElem?_eq_some_iff -> Q8
open List renaming getElem?_toArray -> Rr, getElem?_cons_succ -> Tc, getElem?_cons_zero -> Su, zip_cons_cons -> SJ, zip_nil_left -> SK, foldl_cons -> SI, foldl_nil -> SL, setIfInBounds_toArray -> SM, set_cons_succ -> SN, set_cons_zero -> SP, findIdx?_eq_some_iff_getElem -> SE, findIdx?_eq_none_iff -> SF, getElem_mem -> S9
open Bool renaming false_and -> Te, and_false -> Tf, true_and -> SD
open Nat renaming le_refl -> Q5, le_trans -> Q6, zero_le -> Rh
namespace Go.Proofs.YtjcobjgjjlahdaaGreatDoor
open Go.RowKit
section
@[go_sem] theorem QR:Tryz.prog.underlying 3=some (.int .i64):=by kernel_rfl
@[go_sem] theorem P2:c7 Tryz.prog 3=some (false):=by kernel_rfl
@[go_sem] theorem Pm:bG Tryz.prog 3=some (1):=by kernel_rfl
@[go_sem] theorem Pq:cJ Tryz.prog 3=some ([.v (.int .i64 0)]):=by kernel_rfl
@[go_sem] theorem Ol:r7 Tryz.prog 3=some (.v (.int .i64 0)):=by kernel_rfl
@[go_sem] theorem QS:Tryz.prog.underlying 4=some (.bool):=by kernel_rfl
@[go_sem] theorem P3:c7 Tryz.prog 4=some (false):=by kernel_rfl
@[go_sem] theorem Pn:bG Tryz.prog 4=some (1):=by kernel_rfl
@[go_sem] theorem Pr:cJ Tryz.prog 4=some ([.v (.bool false)]):=by kernel_rfl
@[go_sem] theorem QT:Tryz.prog.underlying 5=some (.int .u8):=by kernel_rfl
@[go_sem] theorem P4:c7 Tryz.prog 5=some (false):=by kernel_rfl
@[go_sem] theorem Po:bG Tryz.prog 5=some (1):=by kernel_rfl
@[go_sem] theorem QU:Tryz.prog.underlying 9=some (.string):=by kernel_rfl
@[go_sem] theorem P5:c7 Tryz.prog 9=some (false):=by kernel_rfl
@[go_sem] theorem Pp:bG Tryz.prog 9=some (1):=by kernel_rfl
@[go_sem] theorem Ps:cJ Tryz.prog 9=some ([.v (.string ⟨#[]⟩)]):=by kernel_rfl
@[go_sem] theorem Qj:Tryz.prog.underlying 22=some (.slice 40):=by kernel_rfl
@[go_sem] theorem OM:c7 Tryz.prog 22=some (false):=by kernel_rfl
@[go_sem] theorem NA:bG Tryz.prog 22=some (1):=by kernel_rfl
@[go_sem] theorem Qd:Kx Tryz.prog 22=some (8):=by kernel_rfl
@[go_sem] theorem O8:iP Tryz.prog 22=some (40,8,120):=by kernel_rfl
@[go_sem] theorem Qk:Tryz.prog.underlying 23=some (.slice 67):=by kernel_rfl
@[go_sem] theorem ON:c7 Tryz.prog 23=some (false):=by kernel_rfl
@[go_sem] theorem NB:bG Tryz.prog 23=some (1):=by kernel_rfl
@[go_sem] theorem NV:cJ Tryz.prog 23=some ([.v (.slice none 0 0)]):=by kernel_rfl
@[go_sem] theorem O9:iP Tryz.prog 23=some (67,13,152):=by kernel_rfl
@[go_sem] theorem Ql:Tryz.prog.underlying 24=some (.slice 65):=by kernel_rfl
@[go_sem] theorem OP:c7 Tryz.prog 24=some (false):=by kernel_rfl
@[go_sem] theorem NC:bG Tryz.prog 24=some (1):=by kernel_rfl
@[go_sem] theorem Pa:iP Tryz.prog 24=some (65,6,72):=by kernel_rfl
@[go_sem] theorem OQ:c7 Tryz.prog 26=some (true):=by kernel_rfl
@[go_sem] theorem ND:bG Tryz.prog 26=some (5):=by kernel_rfl
@[go_sem] theorem NW:cJ Tryz.prog 26=some ([.v (.slice none 0 0), .v (.slice none 0 0), .v (.slice none 0 0), .v (.int .i64 0), .v (.int .i64 0)]):=by kernel_rfl
@[go_sem] theorem Ma:dB Tryz.prog 26 0=some (0):=by kernel_rfl
@[go_sem] theorem Mb:dB Tryz.prog 26 1=some (1):=by kernel_rfl
@[go_sem] theorem Mc:dB Tryz.prog 26 2=some (2):=by kernel_rfl
@[go_sem] theorem Md:dB Tryz.prog 26 3=some (3):=by kernel_rfl
@[go_sem] theorem Me:dB Tryz.prog 26 4=some (4):=by kernel_rfl
@[go_sem] theorem P6:zJ Tryz.prog 26=some ([(0,1),(1,1),(2,1),(3,1),(4,1)],[.v (.slice none 0 0), .v (.slice none 0 0), .v (.slice none 0 0), .v (.int .i64 0), .v (.int .i64 0)]):=by kernel_rfl
@[go_sem] theorem Qm:Tryz.prog.underlying 29=some (.slice 45):=by kernel_rfl
@[go_sem] theorem OR:c7 Tryz.prog 29=some (false):=by kernel_rfl
@[go_sem] theorem NF:bG Tryz.prog 29=some (1):=by kernel_rfl
@[go_sem] theorem Pb:iP Tryz.prog 29=some (45,11,192):=by kernel_rfl
@[go_sem] theorem OS:c7 Tryz.prog 31=some (true):=by kernel_rfl
@[go_sem] theorem NG:bG Tryz.prog 31=some (4):=by kernel_rfl
@[go_sem] theorem NX:cJ Tryz.prog 31=some ([.v (.slice none 0 0), .v (.slice none 0 0), .v (.int .i64 0), .v (.int .i64 0)]):=by kernel_rfl
@[go_sem] theorem Mf:dB Tryz.prog 31 0=some (0):=by kernel_rfl
@[go_sem] theorem Mg:dB Tryz.prog 31 1=some (1):=by kernel_rfl
@[go_sem] theorem Mh:dB Tryz.prog 31 2=some (2):=by kernel_rfl
@[go_sem] theorem Mi:dB Tryz.prog 31 3=some (3):=by kernel_rfl
@[go_sem] theorem OT:c7 Tryz.prog 32=some (false):=by kernel_rfl
@[go_sem] theorem NH:bG Tryz.prog 32=some (1):=by kernel_rfl
@[go_sem] theorem NY:cJ Tryz.prog 32=some ([.v (.int .i64 0)]):=by kernel_rfl
@[go_sem] theorem OU:c7 Tryz.prog 35=some (false):=by kernel_rfl
@[go_sem] theorem NI:bG Tryz.prog 35=some (1):=by kernel_rfl
@[go_sem] theorem Qn:Tryz.prog.underlying 36=some (.slice 38):=by kernel_rfl
@[go_sem] theorem OV:c7 Tryz.prog 36=some (false):=by kernel_rfl
@[go_sem] theorem NJ:bG Tryz.prog 36=some (1):=by kernel_rfl
@[go_sem] theorem Pc:iP Tryz.prog 36=some (38,3,48):=by kernel_rfl
@[go_sem] theorem OW:c7 Tryz.prog 38=some (true):=by kernel_rfl
@[go_sem] theorem NK:bG Tryz.prog 38=some (3):=by kernel_rfl
@[go_sem] theorem NZ:cJ Tryz.prog 38=some ([.v (.int .i64 0), .v (.string ⟨#[]⟩), .v (.slice none 0 0)]):=by kernel_rfl
@[go_sem] theorem Mj:dB Tryz.prog 38 0=some (0):=by kernel_rfl
@[go_sem] theorem Mk:dB Tryz.prog 38 1=some (1):=by kernel_rfl
@[go_sem] theorem Ml:dB Tryz.prog 38 2=some (2):=by kernel_rfl
@[go_sem] theorem P7:zJ Tryz.prog 38=some ([(0,1),(1,1),(2,1)],[.v (.int .i64 0), .v (.string ⟨#[]⟩), .v (.slice none 0 0)]):=by kernel_rfl
@[go_sem] theorem OX:c7 Tryz.prog 40=some (true):=by kernel_rfl
@[go_sem] theorem NL:bG Tryz.prog 40=some (8):=by kernel_rfl
@[go_sem] theorem N0:cJ Tryz.prog 40=some ([.v (.string ⟨#[]⟩), .v (.string ⟨#[]⟩), .v (.bool false), .v (.string ⟨#[]⟩), .v (.string ⟨#[]⟩), .v (.int .i64 0), .v (.string ⟨#[]⟩), .v (.slice none 0 0)]):=by kernel_rfl
@[go_sem] theorem Mm:dB Tryz.prog 40 0=some (0):=by kernel_rfl
@[go_sem] theorem Mn:dB Tryz.prog 40 1=some (1):=by kernel_rfl
@[go_sem] theorem Mo:dB Tryz.prog 40 2=some (2):=by kernel_rfl
@[go_sem] theorem Mp:dB Tryz.prog 40 3=some (3):=by kernel_rfl
@[go_sem] theorem Mq:dB Tryz.prog 40 4=some (4):=by kernel_rfl
@[go_sem] theorem Mr:dB Tryz.prog 40 5=some (5):=by kernel_rfl
@[go_sem] theorem P8:zJ Tryz.prog 40=some ([(0,1),(1,1),(2,1),(3,1),(4,1),(5,3)],[.v (.string ⟨#[]⟩), .v (.string ⟨#[]⟩), .v (.bool false), .v (.string ⟨#[]⟩), .v (.string ⟨#[]⟩), .v (.int .i64 0), .v (.string ⟨#[]⟩), .v (.slice none 0 0)]):=by kernel_rfl
@[go_sem] theorem Qo:Tryz.prog.underlying 43=some (.slice 9):=by kernel_rfl
@[go_sem] theorem OY:c7 Tryz.prog 43=some (false):=by kernel_rfl
@[go_sem] theorem NM:bG Tryz.prog 43=some (1):=by kernel_rfl
@[go_sem] theorem N4:cJ Tryz.prog 43=some ([.v (.slice none 0 0)]):=by kernel_rfl
@[go_sem] theorem Qe:Kx Tryz.prog 43=some (1):=by kernel_rfl
@[go_sem] theorem Pd:iP Tryz.prog 43=some (9,1,16):=by kernel_rfl
@[go_sem] theorem OZ:c7 Tryz.prog 45=some (true):=by kernel_rfl
@[go_sem] theorem NO:bG Tryz.prog 45=some (11):=by kernel_rfl
@[go_sem] theorem N5:cJ Tryz.prog 45=some ([.v (.string ⟨#[]⟩), .v (.string ⟨#[]⟩), .v (.bool false), .v (.string ⟨#[]⟩), .v (.string ⟨#[]⟩), .v (.int .i64 0), .v (.string ⟨#[]⟩), .v (.slice none 0 0), .v (.slice none 0 0), .v (.slice none 0 0), .v (.slice none 0 0)]):=by kernel_rfl
@[go_sem] theorem Ms:dB Tryz.prog 45 0=some (0):=by kernel_rfl
@[go_sem] theorem Mt:dB Tryz.prog 45 1=some (8):=by kernel_rfl
@[go_sem] theorem Mu:dB Tryz.prog 45 2=some (9):=by kernel_rfl
@[go_sem] theorem Mv:dB Tryz.prog 45 3=some (10):=by kernel_rfl
@[go_sem] theorem P9:zJ Tryz.prog 45=some ([(0,8),(8,1),(9,1),(10,1)],[.v (.string ⟨#[]⟩), .v (.string ⟨#[]⟩), .v (.bool false), .v (.string ⟨#[]⟩), .v (.string ⟨#[]⟩), .v (.int .i64 0), .v (.string ⟨#[]⟩), .v (.slice none 0 0), .v (.slice none 0 0), .v (.slice none 0 0), .v (.slice none 0 0)]):=by kernel_rfl
@[go_sem] theorem O0:c7 Tryz.prog 60=some (false):=by kernel_rfl
@[go_sem] theorem NP:bG Tryz.prog 60=some (1):=by kernel_rfl
@[go_sem] theorem Nf:r7 Tryz.prog 60=some (.v (.int .i64 0)):=by kernel_rfl
@[go_sem] theorem Qp:Tryz.prog.underlying 61=some (.int .i64):=by kernel_rfl
@[go_sem] theorem O1:c7 Tryz.prog 61=some (false):=by kernel_rfl
@[go_sem] theorem NQ:bG Tryz.prog 61=some (1):=by kernel_rfl
@[go_sem] theorem Mw:dB Tryz.prog 63 0=some (0):=by kernel_rfl
@[go_sem] theorem Qa:zJ Tryz.prog 63=some ([(0,1),(1,1),(2,1)],[.v (.int .i64 0), .v (.int .i64 0), .v (.string ⟨#[]⟩)]):=by kernel_rfl
@[go_sem] theorem O4:c7 Tryz.prog 65=some (true):=by kernel_rfl
@[go_sem] theorem NR:bG Tryz.prog 65=some (6):=by kernel_rfl
@[go_sem] theorem N6:cJ Tryz.prog 65=some ([.v (.int .i64 0), .v (.string ⟨#[]⟩), .v (.string ⟨#[]⟩), .v (.int .i64 0), .v (.int .i64 0), .v (.string ⟨#[]⟩)]):=by kernel_rfl
@[go_sem] theorem Mx:dB Tryz.prog 65 0=some (0):=by kernel_rfl
@[go_sem] theorem My:dB Tryz.prog 65 1=some (1):=by kernel_rfl
@[go_sem] theorem Mz:dB Tryz.prog 65 3=some (3):=by kernel_rfl
@[go_sem] theorem Qb:zJ Tryz.prog 65=some ([(0,1),(1,1),(2,1),(3,3)],[.v (.int .i64 0), .v (.string ⟨#[]⟩), .v (.string ⟨#[]⟩), .v (.int .i64 0), .v (.int .i64 0), .v (.string ⟨#[]⟩)]):=by kernel_rfl
@[go_sem] theorem O5:c7 Tryz.prog 67=some (true):=by kernel_rfl
@[go_sem] theorem NS:bG Tryz.prog 67=some (13):=by kernel_rfl
@[go_sem] theorem N7:cJ Tryz.prog 67=some ([.v (.int .i64 0), .v (.int .i64 0), .v (.string ⟨#[]⟩), .v (.string ⟨#[]⟩), .v (.int .i64 0), .v (.int .i64 0), .v (.string ⟨#[]⟩), .v (.int .i64 0), .v (.string ⟨#[]⟩), .v (.string ⟨#[]⟩), .v (.int .i64 0), .v (.int .i64 0), .v (.string ⟨#[]⟩)]):=by kernel_rfl
@[go_sem] theorem MA:dB Tryz.prog 67 1=some (1):=by kernel_rfl
@[go_sem] theorem MB:dB Tryz.prog 67 2=some (7):=by kernel_rfl
@[go_sem] theorem Qc:zJ Tryz.prog 67=some ([(0,1),(1,6),(7,6)],[.v (.int .i64 0), .v (.int .i64 0), .v (.string ⟨#[]⟩), .v (.string ⟨#[]⟩), .v (.int .i64 0), .v (.int .i64 0), .v (.string ⟨#[]⟩), .v (.int .i64 0), .v (.string ⟨#[]⟩), .v (.string ⟨#[]⟩), .v (.int .i64 0), .v (.int .i64 0), .v (.string ⟨#[]⟩)]):=by kernel_rfl
@[go_sem] theorem Qq:Tryz.prog.underlying 75=some (.slice 3):=by kernel_rfl
@[go_sem] theorem O6:c7 Tryz.prog 75=some (false):=by kernel_rfl
@[go_sem] theorem NT:bG Tryz.prog 75=some (1):=by kernel_rfl
@[go_sem] theorem N8:cJ Tryz.prog 75=some ([.v (.slice none 0 0)]):=by kernel_rfl
@[go_sem] theorem Qf:Kx Tryz.prog 75=some (1):=by kernel_rfl
@[go_sem] theorem Pe:iP Tryz.prog 75=some (3,1,8):=by kernel_rfl
@[go_sem] theorem Nj:isFun Tryz.prog 84=true:=by kernel_rfl
@[go_sem] theorem Qr:Tryz.prog.underlying 93=some (.map 9 60):=by kernel_rfl
@[go_sem] theorem O7:c7 Tryz.prog 93=some (false):=by kernel_rfl
@[go_sem] theorem NU:bG Tryz.prog 93=some (1):=by kernel_rfl
@[go_sem] theorem N9:cJ Tryz.prog 93=some ([.v (.map none)]):=by kernel_rfl
@[go_sem] theorem Py:Tryz.prog.underlying 105=some (.array 2 65):=by kernel_rfl
@[go_sem] theorem Pf:zJ Tryz.prog 105=some ([(0,6),(6,6)],[.v (.int .i64 0), .v (.string ⟨#[]⟩), .v (.string ⟨#[]⟩), .v (.int .i64 0), .v (.int .i64 0), .v (.string ⟨#[]⟩), .v (.int .i64 0), .v (.string ⟨#[]⟩), .v (.string ⟨#[]⟩), .v (.int .i64 0), .v (.int .i64 0), .v (.string ⟨#[]⟩)]):=by kernel_rfl
@[go_sem] theorem Pz:Tryz.prog.underlying 117=some (.pointer 165):=by kernel_rfl
@[go_sem] theorem PA:Tryz.prog.underlying 121=some (.int .u64):=by kernel_rfl
@[go_sem] theorem Nn:c7 Tryz.prog 149=some (false):=by kernel_rfl
@[go_sem] theorem MC:bG Tryz.prog 149=some (1):=by kernel_rfl
@[go_sem] theorem MM:cJ Tryz.prog 149=some ([.v (.nilFunc)]):=by kernel_rfl
@[go_sem] theorem PB:Tryz.prog.underlying 152=some (.pointer 183):=by kernel_rfl
@[go_sem] theorem No:c7 Tryz.prog 152=some (false):=by kernel_rfl
@[go_sem] theorem MD:bG Tryz.prog 152=some (1):=by kernel_rfl
@[go_sem] theorem Np:c7 Tryz.prog 156=some (false):=by kernel_rfl
@[go_sem] theorem ME:bG Tryz.prog 156=some (1):=by kernel_rfl
@[go_sem] theorem PD:Tryz.prog.underlying 159=some (.slice 193):=by kernel_rfl
@[go_sem] theorem Nq:c7 Tryz.prog 159=some (false):=by kernel_rfl
@[go_sem] theorem MF:bG Tryz.prog 159=some (1):=by kernel_rfl
@[go_sem] theorem Nx:iP Tryz.prog 159=some (193,1,8):=by kernel_rfl
@[go_sem] theorem PE:Tryz.prog.underlying 160=some (.slice 4):=by kernel_rfl
@[go_sem] theorem Nr:c7 Tryz.prog 160=some (false):=by kernel_rfl
@[go_sem] theorem MG:bG Tryz.prog 160=some (1):=by kernel_rfl
@[go_sem] theorem Ny:iP Tryz.prog 160=some (4,1,1):=by kernel_rfl
@[go_sem] theorem Ns:c7 Tryz.prog 162=some (true):=by kernel_rfl
@[go_sem] theorem MH:bG Tryz.prog 162=some (2):=by kernel_rfl
@[go_sem] theorem MN:cJ Tryz.prog 162=some ([.v (.slice none 0 0), .v (.slice none 0 0)]):=by kernel_rfl
@[go_sem] theorem KW:dB Tryz.prog 162 0=some (0):=by kernel_rfl
@[go_sem] theorem KX:dB Tryz.prog 162 1=some (1):=by kernel_rfl
@[go_sem] theorem Pg:zJ Tryz.prog 162=some ([(0,1),(1,1)],[.v (.slice none 0 0), .v (.slice none 0 0)]):=by kernel_rfl
@[go_sem] theorem KY:dB Tryz.prog 165 0=some (0):=by kernel_rfl
@[go_sem] theorem Ph:zJ Tryz.prog 165=some ([(0,2),(2,1)],[.v (.slice none 0 0), .v (.slice none 0 0), .v (.slice none 0 0)]):=by kernel_rfl
@[go_sem] theorem PF:Tryz.prog.underlying 170=some (.slice 75):=by kernel_rfl
@[go_sem] theorem Nz:iP Tryz.prog 170=some (75,1,24):=by kernel_rfl
@[go_sem] theorem PG:Tryz.prog.underlying 178=some (.array 2 9):=by kernel_rfl
@[go_sem] theorem Pj:zJ Tryz.prog 178=some ([(0,1),(1,1)],[.v (.string ⟨#[]⟩), .v (.string ⟨#[]⟩)]):=by kernel_rfl
@[go_sem] theorem Nt:c7 Tryz.prog 180=some (false):=by kernel_rfl
@[go_sem] theorem MI:bG Tryz.prog 180=some (1):=by kernel_rfl
@[go_sem] theorem MO:cJ Tryz.prog 180=some ([.v (.int .u32 0)]):=by kernel_rfl
@[go_sem] theorem PH:Tryz.prog.underlying 181=some (.array 25 180):=by kernel_rfl
@[go_sem] theorem KZ:dB Tryz.prog 183 0=some (0):=by kernel_rfl
@[go_sem] theorem K0:dB Tryz.prog 183 1=some (1):=by kernel_rfl
@[go_sem] theorem K3:dB Tryz.prog 183 2=some (26):=by kernel_rfl
@[go_sem] theorem K4:dB Tryz.prog 183 3=some (27):=by kernel_rfl
@[go_sem] theorem Pk:zJ Tryz.prog 183=some ([(0,1),(1,25),(26,1),(27,1)],[.v (.slice none 0 0), .v (.int .u32 0), .v (.int .u32 0), .v (.int .u32 0), .v (.int .u32 0), .v (.int .u32 0), .v (.int .u32 0), .v (.int .u32 0), .v (.int .u32 0), .v (.int .u32 0), .v (.int .u32 0), .v (.int .u32 0), .v (.int .u32 0), .v (.int .u32 0), .v (.int .u32 0), .v (.int .u32 0), .v (.int .u32 0), .v (.int .u32 0), .v (.int .u32 0), .v (.int .u32 0), .v (.int .u32 0), .v (.int .u32 0), .v (.int .u32 0), .v (.int .u32 0), .v (.int .u32 0), .v (.int .u32 0), .v (.int .u32 0), .v (.bool false)]):=by kernel_rfl
@[go_sem] theorem Nu:c7 Tryz.prog 185=some (true):=by kernel_rfl
@[go_sem] theorem MJ:bG Tryz.prog 185=some (2):=by kernel_rfl
@[go_sem] theorem MP:cJ Tryz.prog 185=some ([.v (.int .u32 0), .v (.int .u32 0)]):=by kernel_rfl
@[go_sem] theorem K5:dB Tryz.prog 185 0=some (0):=by kernel_rfl
@[go_sem] theorem K6:dB Tryz.prog 185 1=some (1):=by kernel_rfl
@[go_sem] theorem Pl:zJ Tryz.prog 185=some ([(0,1),(1,1)],[.v (.int .u32 0), .v (.int .u32 0)]):=by kernel_rfl
@[go_sem] theorem PI:Tryz.prog.underlying 192=some (.map 9 3):=by kernel_rfl
@[go_sem] theorem PJ:Tryz.prog.underlying 193=some (.map 9 3):=by kernel_rfl
@[go_sem] theorem Nv:c7 Tryz.prog 193=some (false):=by kernel_rfl
@[go_sem] theorem MK:bG Tryz.prog 193=some (1):=by kernel_rfl
@[go_sem] theorem MQ:cJ Tryz.prog 193=some ([.v (.map none)]):=by kernel_rfl
@[go_sem] theorem PK:Tryz.prog.underlying 198=some (.map 3 3):=by kernel_rfl
@[go_sem] theorem Nw:c7 Tryz.prog 198=some (false):=by kernel_rfl
@[go_sem] theorem ML:bG Tryz.prog 198=some (1):=by kernel_rfl
@[go_sem] theorem MR:cJ Tryz.prog 198=some ([.v (.map none)]):=by kernel_rfl
@[go_sem] theorem PL:Tryz.prog.underlying 278=some (.array 32 5):=by kernel_rfl
theorem wg (x y:pe) (w:World) (d:Nat):(Op.equalIn (d+2) 63 (.agg #[.int .i64 x.kind, .int .i64 x.num, .string x.text]) (.agg #[.int .i64 y.kind, .int .i64 y.num, .string y.text])).run Tryz.prog w = .ok (x.mj y) w:=by
 unfold pe.mj;cases h1:x.kind==y.kind<;>cases h2:x.num==y.num<;>cases h3:x.text.toList==y.text.toList<;>simp only [Bool.and_true,Bool.and_false]<;>go_simp
theorem nX (x y:dM) (w:World) (d:Nat):(Op.equalIn (d+3) 65
  (.agg #[.int .i64 x.kind, .string x.name, .string x.key, .int .i64 x.val.kind, .int .i64 x.val.num, .string x.val.text])
  (.agg #[.int .i64 y.kind, .string y.name, .string y.key, .int .i64 y.val.kind, .int .i64 y.val.num, .string y.val.text])).run Tryz.prog w = .ok (x.mj y) w:=by
 have hv:=fun w=>wg x.val y.val w d;unfold dM.mj;cases h1:x.kind==y.kind<;>cases h2:x.name.toList==y.name.toList<;>cases h3:x.key.toList==y.key.toList<;>cases h4:x.val.mj y.val<;>rw [h4] at hv<;>simp only [Bool.and_true,Bool.and_false]<;>go_simp
theorem Im (x y:dM) (w:World):(binOp .neq 65
  (.agg #[.int .i64 x.kind, .string x.name, .string x.key, .int .i64 x.val.kind, .int .i64 x.val.num, .string x.val.text])
  (.agg #[.int .i64 y.kind, .string y.name, .string y.key, .int .i64 y.val.kind, .int .i64 y.val.num, .string y.val.text])).run Tryz.prog w = .ok (.bool (!(x.mj y))) w:=by
 rw [run_neq_struct,nX x y w 9997];rfl
theorem tT (x y:dM) (w:World):(binOp .eql 65
  (.agg #[.int .i64 x.kind, .string x.name, .string x.key, .int .i64 x.val.kind, .int .i64 x.val.num, .string x.val.text])
  (.agg #[.int .i64 y.kind, .string y.name, .string y.key, .int .i64 y.val.kind, .int .i64 y.val.num, .string y.val.text])).run Tryz.prog w = .ok (.bool (x.mj y)) w:=by
 rw [run_eql_struct,nX x y w 9997];rfl
theorem gn (n a b:Int) (w:World):Calls Tryz.prog 76 #[.int .i64 n, .int .i64 a, .int .i64 b] w (yk w (.bool (nj n a b))):=by
 unfold nj
 by_cases h1:a<=n
 ·rw [decide_eq_true h1,Bool.true_and]
  go_enter Tryz.func76,Tryz.ntmps76
  go_wp2_with fail
  go_ret
  exact lU rfl rfl
 ·rw [decide_eq_false h1,Bool.false_and]
  go_enter Tryz.func76,Tryz.ntmps76
  go_wp2_with fail
  go_ret
  exact lU rfl rfl
theorem B2 (o:dM):o.mj ⟨o.kind,o.name,⟨#[]⟩,⟨0,0,⟨#[]⟩⟩⟩=(fb o.key&&o.val.none):=by
 simp [dM.mj,pe.mj,pe.none,iC,Bool.and_assoc]
theorem B3 (o:dM):o.mj ⟨o.kind,o.name,o.key,⟨0,0,⟨#[]⟩⟩⟩=o.val.none:=by
 simp [dM.mj,pe.mj,pe.none,iC,Bool.and_assoc]
theorem B4 (o:dM):o.mj ⟨o.kind,⟨#[]⟩,⟨#[]⟩,o.val⟩=(fb o.name&&fb o.key):=by
 simp [dM.mj,pe.mj,iC]
theorem kj (o:dM) (w:World) (ho:o.ok):Calls Tryz.prog 125 #[.agg #[.int .i64 o.kind, .string o.name, .string o.key, .int .i64 o.val.kind, .int .i64 o.val.num, .string o.val.text]] w (jW w (.bool (bl o))):=by
 have H1:=Lib.hid (fun W=>ig o.name W ho.1.len);have H2:=Lib.hid (fun W=>ig o.key W ho.2.1.len);have H3:=Lib.hid (fun W=>vb o.val W ho.2.2.len);have HB:=Lib.hid (fun ob=>((Below.refl w.heap.size w).alloc (Nat.le_refl _) ob));have q1:=fun w=>tT o ⟨o.kind,o.name,⟨#[]⟩,⟨0,0,⟨#[]⟩⟩⟩ w;have q2:=fun w=>tT o ⟨o.kind,o.name,o.key,⟨0,0,⟨#[]⟩⟩⟩ w;have q3:=fun w=>tT o ⟨o.kind,⟨#[]⟩,⟨#[]⟩,o.val⟩ w;rw [B2] at q1;rw [B3] at q2;rw [B4] at q3;simp only at q1 q2 q3;clear ho
 cases k1:o.kind==1
 ·cases k2:o.kind==2
  ·cases k3:o.kind==3
   ·have hfin:bl o=false:=by simp [bl,k1,k2,k3]
    rw [hfin];clear hfin H2 H3 q1 q2 q3
    go_enter Tryz.func125,Tryz.ntmps125
    go_wp2_with fail
    refine (H1.out _).mono ?_;rintro e w1 ⟨rfl,hb1⟩;obtain ⟨hc1,hf1⟩:=bO hb1
    have hz1x0:w.heap.size<w1.heap.size:=by have:=hb1.size;first|omega|(simp at this;omega)
    go_wp2_with fail
    go_ret
    exact aG rfl rfl (dz (ae (HB.out _) hb1) _)
   ·cases g1:cr o.val
    ·rw [g1] at H3
     have hfin:bl o=false:=by simp [bl,k1,k2,k3,g1]
     rw [hfin];clear hfin H2 q1 q2 q3 g1
     go_enter Tryz.func125,Tryz.ntmps125
     go_wp2_with fail
     refine (H1.out _).mono ?_;rintro e w1 ⟨rfl,hb1⟩;obtain ⟨hc1,hf1⟩:=bO hb1
     have hz1x0:w.heap.size<w1.heap.size:=by have:=hb1.size;first|omega|(simp at this;omega)
     go_wp2_with fail
     refine (H3.out _).mono ?_;rintro e w2 ⟨rfl,hb2⟩;obtain ⟨hc2,hf2⟩:=bO hb2
     have hz2x0:w.heap.size<w2.heap.size:=by have:=hb2.size;first|omega|(simp at this;omega)
     have hz2x1:w1.heap.size<w2.heap.size:=by have:=hb2.size;first|omega|(simp at this;omega)
     go_wp2_with fail
     go_ret
     exact aG rfl rfl (ae (dz (ae (HB.out _) hb1) _) hb2)
    ·rw [g1] at H3
     have hfin:bl o=(fb o.name&&fb o.key):=by simp [bl,k1,k2,k3,g1]
     rw [hfin];clear hfin H2 q1 q2 g1
     go_enter Tryz.func125,Tryz.ntmps125
     go_wp2_with fail
     refine (H1.out _).mono ?_;rintro e w1 ⟨rfl,hb1⟩;obtain ⟨hc1,hf1⟩:=bO hb1
     have hz1x0:w.heap.size<w1.heap.size:=by have:=hb1.size;first|omega|(simp at this;omega)
     go_wp2_with fail
     refine (H3.out _).mono ?_;rintro e w2 ⟨rfl,hb2⟩;obtain ⟨hc2,hf2⟩:=bO hb2
     have hz2x0:w.heap.size<w2.heap.size:=by have:=hb2.size;first|omega|(simp at this;omega)
     have hz2x1:w1.heap.size<w2.heap.size:=by have:=hb2.size;first|omega|(simp at this;omega)
     go_wp2_with fail
     go_ret
     exact aG rfl rfl (ae (dz (ae (HB.out _) hb1) _) hb2)
  ·cases g1:dp o.name
   ·rw [g1] at H1
    have hfin:bl o=false:=by simp [bl,k1,k2,g1]
    rw [hfin];clear hfin H2 H3 q1 q2 q3 g1
    go_enter Tryz.func125,Tryz.ntmps125
    go_wp2_with fail
    refine (H1.out _).mono ?_;rintro e w1 ⟨rfl,hb1⟩;obtain ⟨hc1,hf1⟩:=bO hb1
    have hz1x0:w.heap.size<w1.heap.size:=by have:=hb1.size;first|omega|(simp at this;omega)
    go_wp2_with fail
    go_region
    go_wp2_with fail
    go_ret
    exact aG rfl rfl (j4 (dz (ae (HB.out _) hb1) _))
   ·cases g2:dp o.key
    ·rw [g1] at H1;rw [g2] at H2
     have hfin:bl o=false:=by simp [bl,k1,k2,g1,g2]
     rw [hfin];clear hfin H3 q1 q2 q3 g1 g2
     go_enter Tryz.func125,Tryz.ntmps125
     go_wp2_with fail
     refine (H1.out _).mono ?_;rintro e w1 ⟨rfl,hb1⟩;obtain ⟨hc1,hf1⟩:=bO hb1
     have hz1x0:w.heap.size<w1.heap.size:=by have:=hb1.size;first|omega|(simp at this;omega)
     go_wp2_with fail
     go_region
     go_wp2_with fail
     refine (H2.out _).mono ?_;rintro e w2 ⟨rfl,hb2⟩;obtain ⟨hc2,hf2⟩:=bO hb2
     have hz2x0:w.heap.size<w2.heap.size:=by have:=hb2.size;first|omega|(simp at this;omega)
     have hz2x1:w1.heap.size<w2.heap.size:=by have:=hb2.size;first|omega|(simp at this;omega)
     go_wp2_with fail
     go_ret
     exact aG rfl rfl (ae (j4 (dz (ae (HB.out _) hb1) _)) hb2)
    ·rw [g1] at H1;rw [g2] at H2
     have hfin:bl o=o.val.none:=by simp [bl,k1,k2,g1,g2]
     rw [hfin];clear hfin H3 q1 q3 g1 g2
     go_enter Tryz.func125,Tryz.ntmps125
     go_wp2_with fail
     refine (H1.out _).mono ?_;rintro e w1 ⟨rfl,hb1⟩;obtain ⟨hc1,hf1⟩:=bO hb1
     have hz1x0:w.heap.size<w1.heap.size:=by have:=hb1.size;first|omega|(simp at this;omega)
     go_wp2_with fail
     go_region
     go_wp2_with fail
     refine (H2.out _).mono ?_;rintro e w2 ⟨rfl,hb2⟩;obtain ⟨hc2,hf2⟩:=bO hb2
     have hz2x0:w.heap.size<w2.heap.size:=by have:=hb2.size;first|omega|(simp at this;omega)
     have hz2x1:w1.heap.size<w2.heap.size:=by have:=hb2.size;first|omega|(simp at this;omega)
     go_wp2_with fail
     go_ret
     exact aG rfl rfl (ae (j4 (dz (ae (HB.out _) hb1) _)) hb2)
 ·cases g1:dp o.name
  ·rw [g1] at H1
   have hfin:bl o=false:=by simp [bl,k1,g1]
   rw [hfin];clear hfin H2 H3 q1 q2 q3 g1
   go_enter Tryz.func125,Tryz.ntmps125
   go_wp2_with fail
   refine (H1.out _).mono ?_;rintro e w1 ⟨rfl,hb1⟩;obtain ⟨hc1,hf1⟩:=bO hb1
   have hz1x0:w.heap.size<w1.heap.size:=by have:=hb1.size;first|omega|(simp at this;omega)
   go_wp2_with fail
   go_ret
   exact aG rfl rfl (dz (ae (HB.out _) hb1) _)
  ·rw [g1] at H1
   have hfin:bl o=(fb o.key&&o.val.none):=by simp [bl,k1,g1]
   rw [hfin];clear hfin H2 H3 q2 q3 g1
   go_enter Tryz.func125,Tryz.ntmps125
   go_wp2_with fail
   refine (H1.out _).mono ?_;rintro e w1 ⟨rfl,hb1⟩;obtain ⟨hc1,hf1⟩:=bO hb1
   have hz1x0:w.heap.size<w1.heap.size:=by have:=hb1.size;first|omega|(simp at this;omega)
   go_wp2_with fail
   go_ret
   exact aG rfl rfl (dz (ae (HB.out _) hb1) _)
open Go.RowKit Go.Shelf
attribute [local go_sem] Oper.semAt_some
def Qv (J Jx:List XC->World->Prop) (Kp:World->World->Prop) (pre:List XC) (xs:List Ex) (W:World) (e:Ending) (W':World):Prop:=
 (e = .returned (.bool true)∧(∃L,L.map XC.sig=xs.map Ex.sig∧J (pre++L) W')∧Kp W W') ∨
 (e = .returned (.bool false)∧ ∃q,q.map XC.sig <+: xs.map Ex.sig∧Jx (pre++q) W')
def WalkC (F:Fence) (l N lo hi:Nat) (et:TypeId) (J Jx:List XC->World->Prop) (w0:World) (x:Ex):Prop:=
 ∀(n:Nat) (cx:List Value) (pre:List XC) (W:World),cU w0 x cx->x.ok->Cells w0 W->hi<=W.heap.size->J pre W->pre.length+(az x).length<=N ->
  CallsIn F n Tryz.prog 186 #[.agg cx.toArray, .func (.yield l) #[] #[]] W (Qv J Jx (Kept lo hi et) pre (az x) W)
theorem Dl (F:Fence) (hF: ∀f,F.fn f) (hd:F.depth=none) (hro:F.round=none) (l N lo hi:Nat) (et:TypeId) (het:38≠et) (J Jx:List XC->World->Prop) (w0:World) (hlo:w0.heap.size<=lo)
  (hJ: ∀pre W o,J pre W->J pre (W.alloc o))
  (hY: ∀m pre (c:XC) W,J pre W->pre.length<N->YieldAt F m Tryz.prog l #[c.val] W (PS J Jx (Kept lo hi et) pre c W)) (x:Ex):WalkC F l N lo hi et J Jx w0 x:=by
 induction x using Ex.ind with
 | h k s kids ih=>
  intro n cx pre W hx hok hb hhi hj hN;rw [cU] at hx;obtain ⟨sv,rfl,hr⟩:=hx;obtain ⟨p,c,rfl,hc1,hc2⟩:=hr.shape;rw [Ex.ok] at hok;obtain ⟨hs,hoks⟩:=hok
  replace hs:=hs.len
  rw [az] at hN ⊢
  have hdd: ∀k:Nat,(F.depth.isSome=true->1<=k):=fun k h=>by rw [hd] at h;cases h
  obtain ⟨xc,hxv,hxs⟩: ∃xc:XC,xc.val = .agg #[.int .i64 k, .string s, .slice p kids.length c]∧xc.sig=(k,s,kids.length):=⟨⟨k,s,p,kids.length,c,hs,by omega⟩,rfl,rfl⟩;have hy1:=hY (n - 1) pre xc (W.alloc (.cells #[.int .i64 k, .string s, .slice p kids.length c] 38)) (hJ _ _ _ hj) (by simp at hN;omega);obtain ⟨fn,tmps,assign,body,hy,hR⟩:=hy1;rw [hxv] at hy;have HR:=Lib.hid hR;clear hR;have HX:=Lib.hid ih;have HO:=Lib.hid (np.1 hoks);have HRd:=Lib.hid hr;have HBl:=Lib.hid hb;have HNN:=Lib.hid hN;have HJ:=Lib.hid hJ;have HXS:=Lib.hid hxs
  have HW:Hid (W.heap.size<(W.alloc (.cells #[.int .i64 k, .string s, .slice p kids.length c] 38)).heap.size):=by show _<_;simp
  have HB:Hid ((W.alloc (.cells #[.int .i64 k, .string s, .slice p kids.length c] 38)).heap[W.heap.size]? = some (.cells #[.int .i64 k, .string s, .slice p kids.length c] 38)):=by show _=_;exact cM _ _
  clear ih hoks hr hb hN hj hs hY hJ hxv hxs;unfold maxLen at hc2;refine callsIn_of_wp Tryz.func186 rfl (hF _) ?_ hro;simp only [Tryz.ntmps186,List.size_toArray,List.length_cons,List.length_nil,Nat.reduceAdd,Nat.reduceSub,SG,SH,List.push_toArray,List.append_toArray,List.nil_append,List.cons_append]
  gi_wp2_with fail
  refine HR.out.mono ?_
  rintro e W2 (⟨rfl,hJ2,hk2⟩|⟨rfl,hx2⟩)
  ·have hbox:=hk2.box hhi het HB.out;have hk1:Kept lo hi et W W2:=(Kept.alloc W _).trans hk2;have hce:=ax hbox 2;have HH:=Lib.hid hbox;have HK:=Lib.hid hk1;have HJ2:=Lib.hid hJ2;clear hbox hk1 hk2 hJ2;simp only [Rr,Tc,Su] at hce
   gi_wp2_with fail
   gi_loopw [4,14] (fun r i wr=>r = .bool false∧ ∃k:Nat,i = .int .i64 k∧k<=kids.length∧Kept lo hi et W wr∧ ∃L,L.map XC.sig=((bR (kids.take k))).map Ex.sig∧J (pre++[xc]++L) wr) (fun _ i _=>kids.length - (intOf i).toNat)
   case atStart=>exact ⟨rfl,0,rfl,Nat.zero_le _,HK.out,[],rfl,by simpa using HJ2.out⟩
   case round=>
    obtain ⟨rfl,i,rfl,hik,hkw,L,hL,hJL⟩:=hrel;have HKW:=Lib.hid hkw;have HL:=Lib.hid hL;have HJL:=Lib.hid hJL
    have hlen:L.length=(bR (kids.take i)).length:=by have:=congrArg List.length hL;simpa using this
    clear hkw hL hJL
    by_cases hlt:i<kids.length
    ·have hcw:=HKW.out.cells HBl.out hlo;obtain ⟨b1,o1,k1,s1,l1,v1,rfl,hx1,hr1,a0,a1,a2⟩:=HRd.out.at hlt;obtain ⟨p1,c1,rfl, -, -⟩:=hr1.shape
     replace a0:=hcw _ _ _ a0
     replace a1:=hcw _ _ _ a1
     replace a2:=hcw _ _ _ a2
     have hq1:=fa a0;have hmem:kids[i]∈kids:=List.getElem_mem _
     have hrx:cU w0 kids[i] [.int .i64 k1, .string s1, .slice p1 l1.length c1]:=by rw [hx1,cU];exact ⟨_,rfl,hr1⟩
     have hpp:=lJ hlt
     have hbd:(pre++[xc]++L).length+(az kids[i]).length<=N:=by
      have h1:=HNN.out;have h2:=nq kids (i+1);rw [hpp] at h2;simp at h1 h2 ⊢;omega
     have HH1:=Lib.hid (fun m W' hcc hh hj=>HX.out kids[i] hmem m _ (pre++[xc]++L) W' hrx (HO.out _ hmem) hcc hh hj hbd);have HCW:=Lib.hid hcw;have HPP:=Lib.hid hpp;have hhw:=Nat.le_trans hhi HKW.out.size;have HB2:=Lib.hid (fun o=>Kept.alloc (lo:=lo) (hi:=hi) (e:=et) wr o)
     have HS2:Hid (∀o:Obj,hi<=(wr.alloc o).heap.size):=fun o=>by simp;omega
     have HJJ:Hid (∀o:Obj,J (pre++[xc]++L) (wr.alloc o)):=fun o=>HJ.out _ _ _ HJL.out;have HC2:Hid (∀o:Obj,Cells w0 (wr.alloc o)):=fun o=>(HB2.out o).cells HCW.out hlo;clear hx1 hr1 hcw hmem hrx hpp hbd hlen
     gi_wp2_with fail
     refine (HH1.out _ _ (HC2.out _) (HS2.out _) (HJJ.out _)).mono ?_
     rintro e W3 (⟨rfl,⟨L3,hL3,hJ3⟩,hk3⟩|⟨rfl,q,hq,hx3⟩)
     ·have HL3:=Lib.hid hL3;have HJ3:=Lib.hid hJ3;have HK3:=Lib.hid (HKW.out.trans ((HB2.out _).trans hk3));clear hL3 hJ3 hk3
      gi_wp2_with fail
      go_roundw
      case rel=>exact ⟨rfl,i+1,by go_num,by omega,HK3.out,L++L3,by rw [HPP.out];simp [HL.out,HL3.out],by simpa using HJ3.out⟩
      case measure=>simp [intOf];omega
     ·have HQ:=Lib.hid hq;have HX3:=Lib.hid hx3;clear hq hx3
      gi_wp2_with fail
      go_ret
      refine .inr ⟨rfl,[xc]++(L++q), ?_,by simpa using HX3.out⟩;obtain ⟨r,hr⟩:=HQ.out;have h2:=gB (kids.take (i+1)) (kids.drop (i+1));rw [List.take_append_drop,HPP.out] at h2;refine ⟨r++(bR (kids.drop (i+1))).map Ex.sig, ?_⟩;rw [h2];simp [HXS.out,Ex.sig,HL.out, <- hr]
    ·gi_wp2
     go_ret
     obtain rfl:i=kids.length:=by omega
     refine .inl ⟨rfl,⟨[xc]++L, ?_,by simpa using HJL.out⟩,HKW.out⟩;simp [HXS.out,Ex.sig,HL.out]
  ·gi_wp2
   go_ret
   exact .inr ⟨rfl,[xc],by simp [HXS.out,Ex.sig],hx2⟩
theorem ot (F:Fence) (hF: ∀f,F.fn f) (hd:F.depth=none) (hro:F.round=none) (n lo hi B:Nat) (et:TypeId) (het:38≠et) (x:Ex) (cx:List Value) (w0 w:World) (hlo:w0.heap.size<=lo) (hhi:hi<=w.heap.size)
  (hx:cU w0 x cx) (hok:x.ok) (hc:Cells w0 w) (hB:w.heap[B]? = some (.cells cx.toArray 38)) :
  SeqStopsK F n Tryz.prog 185 #[.pointer (some ⟨B,0,none⟩)] (fun c:XC=> #[c.val]) (Kept lo hi et) (fun L=>L.map XC.sig=(az x).map Ex.sig) (fun q=>q.map XC.sig <+: (az x).map Ex.sig) (az x).length w:=by
 intro l J Jx W hW hJ hJx hY h0;have hw:=Dl F hF hd hro l (az x).length lo hi et het J Jx w0 hlo (fun pre W o h=>hJ pre _ _ none h (World.grownBy_alloc W o none) (fun r e=>by cases e)) (fun m pre c W hj hl=>nP hd m (hY pre c W hj hl)) x (n - 1) cx [] W hx hok (hc.trans (.of hW)) (Nat.le_trans hhi hW.size) h0 (by simp);obtain ⟨k,s,kids⟩:=x;rw [cU] at hx;obtain ⟨sv,rfl,hr⟩:=hx;obtain ⟨p,c,rfl, -, -⟩:=hr.shape;have hbw:=(hW.block B (Array.getElem?_eq_some_iff.1 hB).1).trans hB;have c0:=ax hbw 0;have c1:=ax hbw 1;have c2:=ax hbw 2;simp only [Rr,Tc,Su] at c0 c1 c2;have HW:=Lib.hid hw
 have hdd: ∀k:Nat,(F.depth.isSome=true->1<=k):=fun k h=>by rw [hd] at h;cases h
 clear hw hJ hJx hY h0 hr hbw hB hc hW;refine callsIn_of_wp Tryz.func185 rfl (hF _) ?_ hro;simp only [Tryz.ntmps185,List.size_toArray,List.length_cons,List.length_nil,Nat.reduceAdd,Nat.reduceSub,SG,SH,List.push_toArray,List.append_toArray,List.nil_append,List.cons_append]
 gi_wp2_with fail
 refine HW.out.mono ?_
 rintro e W1 (⟨rfl,⟨L,hL,hJ1⟩, -⟩|⟨rfl,q,hq,hx⟩)
 ·have HL:=Lib.hid hL;have HJ1:=Lib.hid hJ1;clear hL hJ1
  gi_wp2
  go_end0
  exact ⟨⟨_,rfl⟩, .inl ⟨L,HL.out,by simpa using HJ1.out⟩⟩
 ·have HQ:=Lib.hid hq;have HX:=Lib.hid hx;clear hq hx
  gi_wp2
  go_end0
  exact ⟨⟨_,rfl⟩, .inr ⟨q,HQ.out,by simpa using HX.out⟩⟩
theorem sT (k:Int) (s:ByteArray) (p:Option Addr) (n c:Nat) (w:World) :
  Calls Tryz.prog 147 #[.agg #[.int .i64 k, .string s, .slice p n c]] w fun e w'=>e = .returned (.func (.func 185) #[] #[.pointer (some ⟨w.heap.size,0,none⟩)])∧w.alloc (.cells #[.int .i64 k, .string s, .slice p n c] 38)=w':=by
 go_enter Tryz.func147,Tryz.ntmps147
 go_wp2_with fail
 go_ret
 exact ⟨rfl,rfl⟩
end
section
open Go.RowKit Go.Shelf
attribute [local go_sem] Oper.semAt_some
theorem tV {x:Ex} {q:List XC} (h:q.map XC.sig <+: (az x).map Ex.sig) (hq:24<q.length∨ ∃c,c∈q∧om c.sig=false):aT x=false:=by
 rw [nY];obtain ⟨r,hr⟩:=h;rw [<-hr]
 rcases hq with hq|⟨c,hc,hf⟩
 ·rw [decide_eq_false (by simp;omega),Te]
 ·have:(q.map XC.sig++r).all om=false:=by
   rw [List.all_eq_false];exact ⟨c.sig,by simp;exact .inl ⟨c,hc,rfl⟩,by rw [hf];decide⟩
  rw [this,Tf]
theorem tU {x:Ex} {q:List XC} (h:q.map XC.sig=(az x).map Ex.sig) (hq:q.length<=24) (hp: ∀c,c∈q->om c.sig=true):aT x=true:=by
 rw [nY, <- h,decide_eq_true (by simpa using hq),SD,List.all_map,List.all_eq_true];exact hp
theorem lX (x:Ex) (cx:List Value) (w:World) (hx:cU w x cx) (hok:x.ok) :
  Calls Tryz.prog 121 #[.agg cx.toArray] w (jW w (.bool (aT x))):=by
 obtain ⟨k,s,kids⟩:=x;have hx':=hx;rw [cU] at hx;obtain ⟨sv,rfl,hr⟩:=hx;obtain ⟨p,c,rfl, -, -⟩:=hr.shape;refine (callsIn_wide (n:=9)).1 ?_;have HX:=Lib.hid hx';have HO:=Lib.hid hok;clear hx' hok hr;refine callsIn_of_wp_marks Tryz.func121 rfl trivial ?_ rfl;simp only [Tryz.ntmps121,List.size_toArray,List.length_cons,List.length_nil,Nat.reduceAdd,Nat.reduceSub,Array.replicate_succ,Array.replicate_zero,List.push_toArray,List.append_toArray,List.nil_append,List.cons_append]
 gi_wp2_with fail
 refine ⟨trivial, ?_⟩;refine (callsIn_wide.2 (sT _ _ _ _ _ _)).mono ?_;rintro e w' ⟨rfl,rfl⟩
 gi_wp2_with fail
 obtain ⟨bx,hbx⟩: ∃bx:Obj,bx = .cells #[.int .i64 k, .string s, .slice p kids.length c] 38:=⟨_,rfl⟩;rw [<-hbx];obtain ⟨W0,hW0⟩: ∃W0,(((w.alloc bx).alloc (.cells #[.bool false] 4)).alloc (.cells #[.int .i64 0] 3)).alloc bx=W0:=⟨_,rfl⟩
 have hs0:W0.heap.size=w.heap.size+4:=by rw [<-hW0];simp
 have hb0:Below w.heap.size w W0:=by rw [<-hW0];exact ((((Below.refl w.heap.size w).alloc (Q5 _) _).alloc (by simp) _).alloc (by simp;omega) _).alloc (by simp;omega) _
 have hbr:W0.heap[w.heap.size+1]? = some (.cells #[.bool false] 4 (0,0)):=by rw [<-hW0];exact iA (iA (by simpa using cM (w.alloc bx) _) _) _
 have hbn:W0.heap[w.heap.size+2]? = some (.cells #[.int .i64 0] 3 (0,0)):=by rw [<-hW0];exact iA (by simpa using cM ((w.alloc bx).alloc (.cells #[.bool false] 4)) _) _
 have hbp:W0.heap[w.heap.size+3]? = some bx:=by rw [<-hW0];simpa using cM (((w.alloc bx).alloc (.cells #[.bool false] 4)).alloc (.cells #[.int .i64 0] 3)) bx
 rw [hbx] at hbp;have hseq:=ot Fence.wide (fun _=>trivial) rfl rfl 8 w.heap.size (w.heap.size+3) (w.heap.size+3) 0 (by decide) _ _ w W0 (Q5 _) (by omega) HX.out HO.out (.of hb0) hbp;rw [hW0];clear hbx
 refine FP (lb:= #[.pointer (some ⟨w.heap.size+3,0,none⟩)]) (gf:=185) rfl (enters_of Tryz.func185 (by kernel_rfl) rfl) hseq (Below.refl _ _) (fun _=>rfl)
  (fun pre W=>(Below w.heap.size w W∧W.heap[w.heap.size+2]? = some (.cells #[.int .i64 pre.length] 3 (0,0))∧W.heap[w.heap.size+1]? = some (.cells #[.bool false] 4 (0,0))∧W0.heap.size<=W.heap.size)∧pre.length<=24∧ ∀c,c∈pre->om c.sig=true)
  (fun c pre W=>(Below w.heap.size w W∧W.heap[w.heap.size+1]? = some (.cells #[.bool false] 4 (0,0)))∧c = .ret∧(24<pre.length∨ ∃c,c∈pre∧om c.sig=false))
  (((ownFrom_below (Q5 _) (by omega)).and ((iD _ _ (fun s:List XC=> #[.int .i64 s.length]) _).and ((iD _ _ (fun _:List XC=> #[.bool false]) _).and (fun _ _ _ _ hs hg _=>Q6 hs hg.size)))).and (ownFrom_pure _ _))
  (fun _=>((ownFrom_below (Q5 _) (by omega)).and (iD _ _ (fun _:List XC=> #[.bool false]) _)).and (ownFrom_pure _ _))
  ⟨⟨hb0,hbn,hbr,Q5 _⟩,Rh _,fun _ h=>by cases h⟩ 4 (fun c=> #[.int .i64 c.kind, .string c.label, .slice c.ptr c.len c.cap]) 38 (fun _ _ h=>h.1.2.2.2) ?assign ?body ?done ?stop
 case assign=>
  intro l x W K hK;simp only [handed,XC.val,SJ,SK,SI,SL,SM,SN,SP];simp only [handed,XC.val,Act.gF,SJ,SK,SI,SL,SM,SN,SP] at hK
  gi_wp2
  exact hK
 case body=>
  rintro l pre x B W hl hrec ⟨⟨hb,hn,hr,hsz⟩,hle,hall⟩ hB hbB hlen;have hcn:=ax hn 0;have hfn:=cK hn 0;have hcr:=ax hr 0;have hfr:=cK hr 0;have hp0:=ax hbB 0;have hp1:=ax hbB 1;have hp2:=ax hbB 2;simp only [Rr,Su,List.getElem?_cons_succ] at hcn hcr hp0 hp1 hp2
  have hB1: ¬B=w.heap.size+2:=by omega
  have hB2: ¬w.heap.size+2=B:=by omega
  obtain ⟨W1,hW1⟩: ∃W1,W1=W.setCell ⟨w.heap.size+2,0,none⟩ (.int .i64 ((pre.length:Int)+1)):=⟨_,rfl⟩
  have hk1:Kept w.heap.size (w.heap.size+3) 0 W W1:=by rw [hW1];exact Kept.setCell W (by omega) (by omega) _
  have hf1:KeepsFrom W0.heap.size W W1:=by rw [hW1];exact (KeepsOthers.setCell _ _ _).from _
  have hbw1:Below w.heap.size w W1:=by rw [hW1];exact hb.setCell (p:=⟨w.heap.size+2,0,none⟩) (by simp) _
  have hn1:W1.heap[w.heap.size+2]? = some (.cells #[.int .i64 ((pre++[x]).length:Nat)] 3 (0,0)):=by rw [hW1];simpa using fQ hn (.int .i64 ((pre.length:Int)+1))
  have hr1:W1.heap[w.heap.size+1]? = some (.cells #[.bool false] 4 (0,0)):=by rw [hW1];exact c9 hr _ (by omega)
  have hz1:W0.heap.size<=W1.heap.size:=by rw [hW1];exact Q6 hsz (KeepsOthers.setCell _ _ _).size
  have HA:=Lib.hid (show _∧_∧_∧_∧_∧_ from ⟨hk1,hf1,hbw1,hn1,hr1,hz1⟩)
  have hzl:w.heap.size+1<W1.heap.size:=by omega
  have HP:=Lib.hid (fun W'=>FB x.kind x.label x.ptr x.len x.cap W' x.hl x.hn);have HS:Hid (∀b,bT x.kind x.label x.len=b->om x.sig=b):=fun b h=>h;have HALL:=Lib.hid hall;have HB0:=Lib.hid hb;have HW1:=Lib.hid hW1;clear hb hn hr hbB hk1 hf1 hbw1 hn1 hr1 hz1 hall hW1 hsz;simp only [handed,Act.gF,SJ,SK,SI,SL,SM,SN,SP]
  by_cases h24:pre.length=24
  ·have hgt:(24:Int)<(pre.length:Int)+1:=by omega
   have H24:=Lib.hid h24;clear h24;have hcr1:=ax HA.out.2.2.2.2.1 0;have hfr1:=cK HA.out.2.2.2.2.1 0;rw [HW1.out] at hcr1 hfr1;simp only [Rr,Su] at hcr1
   gi_wp2_with fail
   refine ⟨trivial, ?_⟩
   gi_wp2
   obtain ⟨hk1,hf1,hbw1,hn1,hr1,hz1⟩:=HA.out;rw [HW1.out] at hf1 hbw1 hr1;refine ⟨hf1.trans ((KeepsOthers.setCell _ _ _).from _),⟨hbw1.setCell (p:=⟨w.heap.size+1,0,none⟩) (by simp) _,fQ hr1 _⟩,rfl, .inl (by have:=H24.out;simp;omega)⟩
  ·have hgt: ¬(24:Int)<(pre.length:Int)+1:=by omega
   have H24:=Lib.hid h24;clear h24
   cases hpb:bT x.kind x.label x.len
   ·rw [hpb] at HP;have HPB:=Lib.hid (HS.out _ hpb);clear hpb
    gi_wp2_with fail
    refine ⟨trivial,(CallsIn.inRound l (callsIn_wide.2 (HP.out _))).mono ?_⟩;rintro e w2 ⟨rfl,hb2⟩
    have hb2':Below W1.heap.size W1 w2:=by rw [HW1.out];exact hb2
    clear hb2;obtain ⟨hk1,hf1,hbw1,hn1,hr1,hz1⟩:=HA.out;have hr2:w2.heap[w.heap.size+1]? = some (.cells #[.bool false] 4 (0,0)):=(hb2'.block _ (by omega)).trans hr1;have hcr1:=ax hr2 0;have hfr1:=cK hr2 0;simp only [Rr,Su] at hcr1;have HR2:=Lib.hid hr2;have HB2:=Lib.hid hb2';clear hk1 hf1 hbw1 hn1 hr1 hz1 hr2 hb2'
    gi_wp2
    obtain ⟨hk1,hf1,hbw1,hn1,hr1,hz1⟩:=HA.out;exact ⟨(hf1.trans (jS HB2.out)).trans ((KeepsOthers.setCell _ _ _).from _),⟨(ae hbw1 HB2.out).setCell (p:=⟨w.heap.size+1,0,none⟩) (by simp) _,fQ HR2.out _⟩,rfl, .inr ⟨x,by simp,HPB.out⟩⟩
   ·rw [hpb] at HP;have HPB:=Lib.hid (HS.out _ hpb);clear hpb
    gi_wp2_with fail
    refine ⟨trivial,(CallsIn.inRound l (callsIn_wide.2 (HP.out _))).mono ?_⟩;rintro e w2 ⟨rfl,hb2⟩
    have HB2:Hid (Below W1.heap.size W1 w2):=by show Below _ _ _;rw [HW1.out];exact hb2
    clear hb2
    gi_wp2
    obtain ⟨hk1,hf1,hbw1,hn1,hr1,hz1⟩:=HA.out;have hb2:=HB2.out;refine ⟨hf1.trans (jS hb2),hk1.trans (Kept.below hb2),⟨ae hbw1 hb2,(hb2.block _ (by omega)).trans hn1,(hb2.block _ (by omega)).trans hr1,Q6 hz1 hb2.size⟩,by have:=H24.out;simp;omega, ?_⟩;intro c hc
    rcases List.mem_append.1 hc with hc|hc
    ·exact HALL.out c hc
    ·rw [List.mem_singleton.1 hc];exact HPB.out
 case done=>
  rintro D xs W hD hS ⟨⟨hb,hn,hr,hsz⟩,hle,hall⟩ hK;have hcr:=ax hr 0;have hfr:=cK hr 0;simp only [Rr,Su] at hcr;have hfin:=tU hS hle hall;have HF:=Lib.hid hfin;have HR:=Lib.hid hr;have HB:=Lib.hid hb;have HK:=Lib.hid hK;have HD:=Lib.hid hD;have H0:=Lib.hid hs0;clear hb hn hr hsz hle hall hK hD hS hfin hW0 hb0 hbr hbn hbp hseq hs0
  gi_wp2
  have hD:=HD.out;have h0:=H0.out;have hKs:=c9 HK.out (b:=w.heap.size+1) (o:=0) (.bool true) (by omega);refine ⟨by simp, .inl ⟨_,_,rfl,run_takeDeferred hKs, ?_⟩⟩;have hbx:=c8 (fQ HR.out (.bool true)) (.deferred none) (D:=D) (by omega);have hcf:=ax hbx 0;simp only [Rr,Su] at hcf
  refine ⟨.bool true, ?_,aG rfl HF.out.symm ?_⟩
  ·simp [results,Tryz.results121,go_sem,hcf]
  ·exact ic (HB.out.setCell (p:=⟨w.heap.size+1,0,none⟩) (Nat.le_succ _) _) (by omega) _ hKs
 case stop=>
  rintro D c pre W hD hSp ⟨⟨hb,hr⟩,rfl,hq⟩ hK;have hfin:=tV hSp hq;have HF:=Lib.hid hfin;have HR:=Lib.hid hr;have HB:=Lib.hid hb;have HK:=Lib.hid hK;have HD:=Lib.hid hD;have H0:=Lib.hid hs0;clear hb hr hK hD hSp hq hfin hW0 hb0 hbr hbn hbp hseq hs0
  gi_wp2
  have hD:=HD.out;have h0:=H0.out;refine ⟨by simp, .inl ⟨_,_,rfl,run_takeDeferred HK.out, ?_⟩⟩;have hbx:=c8 HR.out (.deferred none) (D:=D) (by omega);have hcf:=ax hbx 0;simp only [Rr,Su] at hcf
  refine ⟨.bool false, ?_,aG rfl HF.out.symm ?_⟩
  ·simp [results,Tryz.results121,go_sem,hcf]
  ·exact ic HB.out (by omega) _ HK.out
end
def rS (x:Ex):Prop:= ∀(y:Ex) (cx cy:List Value) (w:World),cU w x cx->cU w y cy ->
 Calls Tryz.prog 45 #[.agg cx.toArray, .agg cy.toArray] w (jW w (.bool (du x y)))
theorem u4 (xs:List Ex) (hx: ∀x,x∈xs->rS x) (ys:List Ex) (vx vy:Value) (w:World) (h1:dm w xs vx) (h2:dm w ys vy) :
  Calls Tryz.prog 85 #[vx,vy] w (jW w (.bool (iB xs ys))):=by
 rw [lK];obtain ⟨p,c,rfl,hc1,hc2⟩:=h1.shape;obtain ⟨q,d,rfl,hd1,hd2⟩:=h2.shape;unfold maxLen at hc2 hd2
 by_cases hl:xs.length=ys.length
 ·have H1:=Lib.hid h1;have H2:=Lib.hid h2;have HX:=Lib.hid hx;have HL:=Lib.hid hl
  have hne:(((xs.length:Nat):Int) !=((ys.length:Nat):Int))=false:=by simp [hl]
  clear h1 h2 hx hl
  go_enter Tryz.func85,Tryz.ntmps85
  go_wp2_with fail
  go_loopw [4,5] (fun r i wr=> ∃k:Nat,k<=xs.length∧r = .bool false∧i = .int .i64 k∧Below w.heap.size w wr∧ ∀j (h:j<k) (h':j<xs.length) (h'':j<ys.length),du xs[j] ys[j]=true) (fun _ i _=>xs.length - (intOf i).toNat)
  case atStart=>exact ⟨0,Rh _,rfl,rfl,Below.refl _ _,fun j h=>by omega⟩
  case round=>
   obtain ⟨k,hk,rfl,rfl,hb,hP⟩:=hrel;have HP:=Lib.hid hP;clear hP
   by_cases hlt:k<xs.length
   ·have hlt2:k<ys.length:=by have:=HL.out;omega
    obtain ⟨b1,o1,k1,s1,l1,v1,rfl,hx1,hr1,a0,a1,a2⟩:=(H1.out.below hb).at hlt;obtain ⟨b2,o2,k2,s2,l2,v2,rfl,hx2,hr2,c0,c1,c2⟩:=(H2.out.below hb).at hlt2;have HC:=Lib.hid (HX.out xs[k] (List.getElem_mem _) ys[k] [.int .i64 k1, .string s1,v1] [.int .i64 k2, .string s2,v2] wr.drew (by rw [hx1,cU];exact ⟨v1,rfl,hr1.below (cX wr)⟩) (by rw [hx2,cU];exact ⟨v2,rfl,hr2.below (cX wr)⟩));clear hx1 hr1 hx2 hr2
    cases hs:du xs[k] ys[k]
    ·rw [hs] at HC;have HS:=Lib.hid hs;clear hs
     go_wp2_with fail
     go_still_tail 8,(by kernel_rfl)
     change wpList _ _ _ _ _ wr.drew
     go_wp2_with fail
     refine HC.out.mono ?_;rintro e w' ⟨rfl,hb'⟩
     go_wp2_with fail
     go_ret
     exact aG rfl (oQ hlt hlt2 HS.out).symm (ae hb (Below.Gg hb'))
    ·rw [hs] at HC;have HS:=Lib.hid hs;clear hs
     go_wp2_with fail
     go_still_tail 8,(by kernel_rfl)
     change wpList _ _ _ _ _ wr.drew
     go_wp2_with fail
     refine HC.out.mono ?_;rintro e w' ⟨rfl,hb'⟩
     go_wp2_with fail
     go_roundw
     case rel=>exact ⟨k+1,by omega,rfl,by go_num,ae hb (Below.Gg hb'),fun j h h' h''=>by
      by_cases e:j=k
      ·subst e;exact HS.out
      ·exact HP.out j (by omega) h' h''⟩
     case measure=>simp [intOf];omega
   ·go_wp2_with fail
    go_ret
    have hk':k=xs.length:=by omega
    exact aG rfl (ia.2 ⟨HL.out,fun i h h'=>HP.out i (by omega) h h'⟩).symm hb
 ·have hne:(((xs.length:Nat):Int) !=((ys.length:Nat):Int))=true:=by simp;omega
  clear h1 h2 hx;rw [l9 hl];clear hl
  go_enter Tryz.func85,Tryz.ntmps85
  go_wp2_with fail
  go_ret
  exact ⟨rfl,Below.refl _ _⟩
theorem u0 (x:Ex):rS x:=by
 induction x using Ex.ind with
 | h k s l ih=>
  intro y cx cy w hx hy;obtain ⟨k',s',l'⟩:=y;rw [cU] at hx hy;obtain ⟨vx,rfl,hx⟩:=hx;obtain ⟨vy,rfl,hy⟩:=hy;rw [du];have HB: ∀o o',Below w.heap.size w ((w.alloc o).alloc o'):=fun o o'=>((Below.refl _ _).alloc (Q5 _) o).alloc (by simp) o'
  cases hk:k==k'
  ·clear ih hx hy;rw [Te,Te];have HB':=Lib.hid HB;clear HB
   go_enter Tryz.func45,Tryz.ntmps45
   go_wp2_with fail
   go_ret
   exact aG rfl rfl (HB'.out _ _)
  ·cases hs:s.toList==s'.toList
   ·clear ih hx hy;rw [Tf,Te];have HB':=Lib.hid HB;clear HB
    go_enter Tryz.func45,Tryz.ntmps45
    go_wp2_with fail
    go_ret
    exact aG rfl rfl (HB'.out _ _)
   ·rw [Bool.and_true,SD];have HC:=Lib.hid (fun w' (hb:Below w.heap.size w w')=>u4 l ih l' vx vy w' (hx.below hb) (hy.below hb));have HB':=Lib.hid HB;clear ih hx hy HB
    go_enter Tryz.func45,Tryz.ntmps45
    go_wp2_with fail
    refine (HC.out _ (HB'.out _ _)).mono ?_;rintro e w' ⟨rfl,hb'⟩
    go_wp2_with fail
    go_ret
    exact aG rfl rfl (ae (HB'.out _ _) hb')
theorem nK (xs ys:List dM) (vx vy:Value) (w:World) (h1:jj w xs vx) (h2:jj w ys vy) :
  Calls Tryz.prog 31 #[vx,vy] w (jW w (.bool (fy dM.mj xs ys))):=by
 obtain ⟨p,c,rfl,hc1,hc2⟩:=h1.shape;obtain ⟨q,d,rfl,hd1,hd2⟩:=h2.shape;unfold maxLen at hc2 hd2
 by_cases hl:xs.length=ys.length
 ·have H1:=Lib.hid h1;have H2:=Lib.hid h2;have HL:=Lib.hid hl
  skip
  have hne:(((xs.length:Nat):Int) !=((ys.length:Nat):Int))=false:=by simp [hl]
  clear h1 h2 hl
  go_enter Tryz.func31,Tryz.ntmps31
  go_wp2_with fail
  go_loopw [4,5] (fun r i wr=> ∃k:Nat,k<=xs.length∧r = .bool false∧i = .int .i64 k∧Below w.heap.size w wr∧ ∀j (h:j<k) (h':j<xs.length) (h'':j<ys.length),dM.mj xs[j] ys[j]=true) (fun _ i _=>xs.length - (intOf i).toNat)
  case atStart=>exact ⟨0,Rh _,rfl,rfl,Below.refl _ _,fun j h=>by omega⟩
  case round=>
   obtain ⟨k,hk,rfl,rfl,hb,hP⟩:=hrel;have HP:=Lib.hid hP;clear hP
   by_cases hlt:k<xs.length
   ·have hlt2:k<ys.length:=by have:=HL.out;omega
    obtain ⟨b1,o1,rfl,a0,a1,a2,a3,a4,a5⟩:=nH (H1.out.below hb) hlt;obtain ⟨b2,o2,rfl,c0,c1,c2,c3,c4,c5⟩:=nH (H2.out.below hb) hlt2;have hq:=fun w=>Im xs[k] ys[k] w
    cases hs:dM.mj xs[k] ys[k]
    ·rw [hs,Bool.not_false] at hq;have HS:=Lib.hid hs;clear hs
     go_wp2_with fail
     go_still (by kernel_rfl)
     go_wp2_with fail
     go_ret
     exact aG rfl (oQ hlt hlt2 HS.out).symm hb.drew
    ·rw [hs,Bool.not_true] at hq;have HS:=Lib.hid hs;clear hs
     go_wp2_with fail
     go_still (by kernel_rfl)
     go_wp2_with fail
     go_roundw
     case rel=>exact ⟨k+1,by omega,rfl,by go_num,hb.drew,fun j h h' h''=>by
      by_cases e:j=k
      ·subst e;exact HS.out
      ·exact HP.out j (by omega) h' h''⟩
     case measure=>simp [intOf];omega
   ·go_wp2_with fail
    go_ret
    have hk':k=xs.length:=by omega
    exact aG rfl (ia.2 ⟨HL.out,fun i h h'=>HP.out i (by omega) h h'⟩).symm hb
 ·have hne:(((xs.length:Nat):Int) !=((ys.length:Nat):Int))=true:=by simp;omega
  clear h1 h2;rw [l9 hl];clear hl
  go_enter Tryz.func31,Tryz.ntmps31
  go_wp2_with fail
  go_ret
  exact aG rfl rfl (Below.refl _ _)
theorem rJ (xs ys:List ByteArray) (vx vy:Value) (w:World) (h1:gZ w xs vx) (h2:gZ w ys vy) :
  Calls Tryz.prog 13 #[vx,vy] w (jW w (.bool (fy cf xs ys))):=by
 obtain ⟨p,c,rfl,hc1,hc2⟩:=h1.shape;obtain ⟨q,d,rfl,hd1,hd2⟩:=h2.shape;unfold maxLen at hc2 hd2
 by_cases hl:xs.length=ys.length
 ·have H1:=Lib.hid h1;have H2:=Lib.hid h2;have HL:=Lib.hid hl
  skip
  have hne:(((xs.length:Nat):Int) !=((ys.length:Nat):Int))=false:=by simp [hl]
  clear h1 h2 hl
  go_enter Tryz.func13,Tryz.ntmps13
  go_wp2_with fail
  go_loopw [4,5] (fun r i wr=> ∃k:Nat,k<=xs.length∧r = .bool false∧i = .int .i64 k∧Below w.heap.size w wr∧ ∀j (h:j<k) (h':j<xs.length) (h'':j<ys.length),cf xs[j] ys[j]=true) (fun _ i _=>xs.length - (intOf i).toNat)
  case atStart=>exact ⟨0,Rh _,rfl,rfl,Below.refl _ _,fun j h=>by omega⟩
  case round=>
   obtain ⟨k,hk,rfl,rfl,hb,hP⟩:=hrel;have HP:=Lib.hid hP;clear hP
   by_cases hlt:k<xs.length
   ·have hlt2:k<ys.length:=by have:=HL.out;omega
    obtain ⟨b1,o1,rfl,a0⟩:=nI (H1.out.below hb) hlt;obtain ⟨b2,o2,rfl,c0⟩:=nI (H2.out.below hb) hlt2
    cases hs:cf xs[k] ys[k]
    ·have HS:=Lib.hid hs;unfold cf at hs
     go_wp2_with fail
     go_still (by kernel_rfl)
     go_wp2_with fail
     go_ret
     exact aG rfl (oQ hlt hlt2 HS.out).symm hb.drew
    ·have HS:=Lib.hid hs;unfold cf at hs
     go_wp2_with fail
     go_still (by kernel_rfl)
     go_wp2_with fail
     go_roundw
     case rel=>exact ⟨k+1,by omega,rfl,by go_num,hb.drew,fun j h h' h''=>by
      by_cases e:j=k
      ·subst e;exact HS.out
      ·exact HP.out j (by omega) h' h''⟩
     case measure=>simp [intOf];omega
   ·go_wp2_with fail
    go_ret
    have hk':k=xs.length:=by omega
    exact aG rfl (ia.2 ⟨HL.out,fun i h h'=>HP.out i (by omega) h h'⟩).symm hb
 ·have hne:(((xs.length:Nat):Int) !=((ys.length:Nat):Int))=true:=by simp;omega
  clear h1 h2;rw [l9 hl];clear hl
  go_enter Tryz.func13,Tryz.ntmps13
  go_wp2_with fail
  go_ret
  exact aG rfl rfl (Below.refl _ _)
def tA (f:FuncId):Prop:= ∀(x y:bQ) (k1:Int) (s1:ByteArray) (l1:List Ex) (v1:Value) (k2:Int) (s2:ByteArray) (l2:List Ex) (v2:Value) (w:World),
 x.expr = .mk k1 s1 l1->dm w l1 v1->y.expr = .mk k2 s2 l2->dm w l2 v2 ->
 Calls Tryz.prog f #[.agg #[.string x.aR, .string x.to, .bool x.path, .string x.label, .string x.name, .int .i64 k1, .string s1,v1], .agg #[.string y.aR, .string y.to, .bool y.path, .string y.label, .string y.name, .int .i64 k2, .string s2,v2]] w (jW w (.bool (fH x y)))
theorem oM:tA 12:=by
 intro x y k1 s1 l1 v1 k2 s2 l2 v2 w e1 r1 e2 r2;have HB:=Lib.hid (fun o o'=>((Below.refl w.heap.size w).alloc (Q5 _) o).alloc (by simp) o');have HC:=Lib.hid (fun w' (hb:Below w.heap.size w w')=>u0 x.expr y.expr [.int .i64 k1, .string s1,v1] [.int .i64 k2, .string s2,v2] w' (by rw [e1,cU];exact ⟨v1,rfl,r1.below hb⟩) (by rw [e2,cU];exact ⟨v2,rfl,r2.below hb⟩));clear e1 r1 e2 r2
 cases g0:x.aR.toList==y.aR.toList
 ·skip
  have G0:=Lib.hid g0;
  clear HC
  go_enter Tryz.func12,Tryz.ntmps12
  go_wp2_with fail
  go_ret
  exact aG rfl (by simp [fH,G0.out]) (HB.out _ _)
 ·skip
  cases g1:x.to.toList==y.to.toList
  ·skip
   have G0:=Lib.hid g0;have G1:=Lib.hid g1;
   clear HC
   go_enter Tryz.func12,Tryz.ntmps12
   go_wp2_with fail
   go_ret
   exact aG rfl (by simp [fH,G0.out,G1.out]) (HB.out _ _)
  ·skip
   cases g2:x.path==y.path
   ·skip
    have G0:=Lib.hid g0;have G1:=Lib.hid g1;have G2:=Lib.hid g2;
    clear HC
    go_enter Tryz.func12,Tryz.ntmps12
    go_wp2_with fail
    go_ret
    exact aG rfl (by simp [fH,G0.out,G1.out,G2.out]) (HB.out _ _)
   ·skip
    cases g3:x.label.toList==y.label.toList
    ·skip
     have G0:=Lib.hid g0;have G1:=Lib.hid g1;have G2:=Lib.hid g2;have G3:=Lib.hid g3;
     clear HC
     go_enter Tryz.func12,Tryz.ntmps12
     go_wp2_with fail
     go_ret
     exact aG rfl (by simp [fH,G0.out,G1.out,G2.out,G3.out]) (HB.out _ _)
    ·skip
     cases g4:x.name.toList==y.name.toList
     ·skip
      have G0:=Lib.hid g0;have G1:=Lib.hid g1;have G2:=Lib.hid g2;have G3:=Lib.hid g3;have G4:=Lib.hid g4;
      clear HC
      go_enter Tryz.func12,Tryz.ntmps12
      go_wp2_with fail
      go_ret
      exact aG rfl (by simp [fH,G0.out,G1.out,G2.out,G3.out,G4.out]) (HB.out _ _)
     ·skip
      have G0:=Lib.hid g0;have G1:=Lib.hid g1;have G2:=Lib.hid g2;have G3:=Lib.hid g3;have G4:=Lib.hid g4;
      go_enter Tryz.func12,Tryz.ntmps12
      go_wp2_with fail
      refine (HC.out _ (HB.out _ _)).mono ?_;rintro e w' ⟨rfl,hb'⟩
      go_wp2_with fail
      go_ret
      exact aG rfl (by simp [fH,G0.out,G1.out,G2.out,G3.out,G4.out]) (ae (HB.out _ _) hb')
def DQ (x:Ex):Prop:= ∀(y:Ex) (cx cy:List Value) (w:World),cU w x cx->cU w y cy ->
 Calls Tryz.prog 122 #[.agg cx.toArray, .agg cy.toArray] w (jW w (.bool (du x y)))
theorem ru (xs ys:List Ex) (hf: ∀x,x∈xs->DQ x) (vx vy:Value) (w:World) (h1:dm w xs vx) (h2:dm w ys vy) :
  Calls Tryz.prog 163 #[vx,vy, .func (.func 122) #[] #[]] w (jW w (.bool (fy du xs ys))):=by
 obtain ⟨p,c,rfl,hc1,hc2⟩:=h1.shape;obtain ⟨q,d,rfl,hd1,hd2⟩:=h2.shape;unfold maxLen at hc2 hd2
 by_cases hl:xs.length=ys.length
 ·have H1:=Lib.hid h1;have H2:=Lib.hid h2;have HL:=Lib.hid hl;have HF:=Lib.hid hf;clear hf
  have hne:(((xs.length:Nat):Int) !=((ys.length:Nat):Int))=false:=by simp [hl]
  clear h1 h2 hl
  go_enter Tryz.func163,Tryz.ntmps163
  go_wp2_with fail
  go_loopw [6,17] (fun r i wr=> ∃k:Nat,k<=xs.length∧r = .bool false∧i = .int .i64 k∧Below w.heap.size w wr∧ ∀j (h:j<k) (h':j<xs.length) (h'':j<ys.length),du xs[j] ys[j]=true) (fun _ i _=>xs.length - (intOf i).toNat)
  case atStart=>exact ⟨0,Rh _,rfl,rfl,Below.refl _ _,fun j h=>by omega⟩
  case round=>
   obtain ⟨k,hk,rfl,rfl,hb,hP⟩:=hrel;have HP:=Lib.hid hP;clear hP
   by_cases hlt:k<xs.length
   ·have hlt2:k<ys.length:=by have:=HL.out;omega
    obtain ⟨b1,o1,k1,s1,l1,v1,rfl,hx1,hr1,a0,a1,a2⟩:=(H1.out.below hb).at hlt;obtain ⟨b2,o2,k2,s2,l2,v2,rfl,hx2,hr2,c0,c1,c2⟩:=(H2.out.below hb).at hlt2;have hq1:=fa a0;have hq2:=fa c0;obtain ⟨pv1,cv1,rfl, -, -⟩:=hr1.shape;obtain ⟨pv2,cv2,rfl, -, -⟩:=hr2.shape;have HB:=Lib.hid (fun o o'=>((Below.refl wr.heap.size wr).alloc (Q5 _) o).alloc (by simp) o');have HC:=Lib.hid (fun w' (hw:Below wr.heap.size wr w')=>HF.out xs[k] (List.getElem_mem _) ys[k] [.int .i64 k1, .string s1, .slice pv1 l1.length cv1] [.int .i64 k2, .string s2, .slice pv2 l2.length cv2] w' (by rw [hx1,cU];exact ⟨_,rfl,hr1.below hw⟩) (by rw [hx2,cU];exact ⟨_,rfl,hr2.below hw⟩));clear hx1 hr1 hx2 hr2
    cases hs:du xs[k] ys[k]
    ·rw [hs] at HC;have HS:=Lib.hid hs;clear hs
     go_wp2_with fail
     refine (HC.out _ (HB.out _ _)).mono ?_;rintro e w' ⟨rfl,hb'⟩
     go_wp2_with fail
     go_ret
     exact aG rfl (oQ hlt hlt2 HS.out).symm (ae hb (ae (HB.out _ _) hb'))
    ·rw [hs] at HC;have HS:=Lib.hid hs;clear hs
     go_wp2_with fail
     refine (HC.out _ (HB.out _ _)).mono ?_;rintro e w' ⟨rfl,hb'⟩
     go_wp2_with fail
     go_roundw
     case rel=>exact ⟨k+1,by omega,rfl,by go_num,(ae hb (ae (HB.out _ _) hb')),fun j h h' h''=>by
      by_cases e:j=k
      ·subst e;exact HS.out
      ·exact HP.out j (by omega) h' h''⟩
     case measure=>simp [intOf];omega
   ·go_wp2_with fail
    go_ret
    have hk':k=xs.length:=by omega
    exact aG rfl (ia.2 ⟨HL.out,fun i h h'=>HP.out i (by omega) h h'⟩).symm hb
 ·have hne:(((xs.length:Nat):Int) !=((ys.length:Nat):Int))=true:=by simp;omega
  clear h1 h2 hf;rw [l9 hl];clear hl
  go_enter Tryz.func163,Tryz.ntmps163
  go_wp2_with fail
  go_ret
  exact aG rfl rfl (Below.refl _ _)
theorem tp (x:Ex):DQ x:=by
 induction x using Ex.ind with
 | h k s l ih=>
  intro y cx cy w hx hy;obtain ⟨k',s',l'⟩:=y;rw [cU] at hx hy;obtain ⟨vx,rfl,hx⟩:=hx;obtain ⟨vy,rfl,hy⟩:=hy;rw [jQ];have HB':=Lib.hid (fun o o'=>((Below.refl w.heap.size w).alloc (Q5 _) o).alloc (by simp) o')
  cases hk:k==k'
  ·clear ih hx hy;rw [Te,Te]
   go_enter Tryz.func122,Tryz.ntmps122
   go_wp2_with fail
   go_ret
   exact aG rfl rfl (HB'.out _ _)
  ·cases hs:s.toList==s'.toList
   ·clear ih hx hy;rw [Tf,Te]
    go_enter Tryz.func122,Tryz.ntmps122
    go_wp2_with fail
    go_ret
    exact aG rfl rfl (HB'.out _ _)
   ·rw [Bool.and_true,SD];have HC:=Lib.hid (fun w' (hb:Below w.heap.size w w')=>ru l l' ih vx vy w' (hx.below hb) (hy.below hb));clear ih hx hy
    go_enter Tryz.func122,Tryz.ntmps122
    go_wp2_with fail
    refine (HC.out _ (HB'.out _ _)).mono ?_;rintro e w' ⟨rfl,hb'⟩
    go_wp2_with fail
    go_ret
    exact aG rfl rfl (ae (HB'.out _ _) hb')
section
open Go.RowKit
end
theorem JS (a b:ByteArray):(a++b).toList.isEmpty=(fb a&&fb b):=by
 rw [dV,fb,fb,ByteArray.size_append]
 by_cases h1:a.size=0<;>by_cases h2:b.size=0<;>simp [h1,h2]
theorem xp (p:bQ) (k:Int) (s:ByteArray) (l:List Ex) (v:Value) (w:World) (ho:p.ok) (he:p.expr = .mk k s l) (hr:dm w l v) :
  Calls Tryz.prog 78 #[.agg #[.string p.aR, .string p.to, .bool p.path, .string p.label, .string p.name, .int .i64 k, .string s,v]] w (jW w (.bool (bL p))):=by
 obtain ⟨pv,cv,rfl, -, -⟩:=hr.shape;obtain ⟨o1,o2,o3,o4,o5⟩:=ho;have HF:=Lib.hid (fun W=>ig p.aR W o1.len);have HT:=Lib.hid (fun W=>ig p.to W o2.len);have HL:=Lib.hid (fun W=>ig p.label W o3.len);have HN:=Lib.hid (fun W=>ig p.name W o4.len);have HX:=Lib.hid (fun W (hb:Below w.heap.size w W)=>lX p.expr [.int .i64 k, .string s, .slice pv l.length cv] W (by rw [he,cU];exact ⟨_,rfl,hr.below hb⟩) o5);have HS:=Lib.hid (fun W (hb:Below w.heap.size w W)=>tp p.expr (.mk 0 ⟨#[]⟩ []) [.int .i64 k, .string s, .slice pv l.length cv] [.int .i64 0, .string ⟨#[]⟩, .slice none 0 0] W (by rw [he,cU];exact ⟨_,rfl,hr.below hb⟩) (by rw [cU];exact ⟨_,rfl,by rw [dm];exact .inl (.inl rfl)⟩));have HB:=Lib.hid (fun ob=>((Below.refl w.heap.size w).alloc (Q5 _) ob))
 have hsum:p.label.size+p.name.size<=9223372036854775807:=by unfold x7 at o3 o4;omega
 have hcat:=JS p.label p.name;have hnn:=iC p.name;have HSUM:=Lib.hid hsum;have HCAT:=Lib.hid hcat;have HNN:=Lib.hid hnn;clear o1 o2 o3 o4 o5 he hr hsum hcat hnn
 cases g1:dp p.aR
 ·rw [g1] at HF
  have hfin:bL p=false:=by simp [bL,g1]
  rw [hfin];clear hfin HT HL HN HX HS g1
  go_enter Tryz.func78,Tryz.ntmps78
  go_wp2_with fail
  refine (HF.out _).mono ?_;rintro e w1 ⟨rfl,hb1⟩;obtain ⟨hc1,hf1⟩:=bO hb1
  have hz1x0:w.heap.size<w1.heap.size:=by have:=hb1.size;first|omega|(simp at this;omega)
  go_wp2_with fail
  go_ret
  exact aG rfl rfl (ae (HB.out _) hb1)
 ·rw [g1] at HF
  cases g2:dp p.to
  ·rw [g2] at HT
   have hfin:bL p=false:=by simp [bL,g1,g2]
   rw [hfin];clear hfin HL HN HX HS g1 g2
   go_enter Tryz.func78,Tryz.ntmps78
   go_wp2_with fail
   refine (HF.out _).mono ?_;rintro e w1 ⟨rfl,hb1⟩;obtain ⟨hc1,hf1⟩:=bO hb1
   have hz1x0:w.heap.size<w1.heap.size:=by have:=hb1.size;first|omega|(simp at this;omega)
   go_wp2_with fail
   refine (HT.out _).mono ?_;rintro e w2 ⟨rfl,hb2⟩;obtain ⟨hc2,hf2⟩:=bO hb2
   have hz2x0:w.heap.size<w2.heap.size:=by have:=hb2.size;first|omega|(simp at this;omega)
   go_wp2_with fail
   go_ret
   exact aG rfl rfl (ae (ae (HB.out _) hb1) hb2)
  ·rw [g2] at HT
   cases g3:p.path
   ·cases g4:dp p.label
    ·rw [g4] at HL
     have hfin:bL p=false:=by simp [bL,g1,g2,g3,g4]
     rw [hfin];clear hfin HN HX HS g1 g2 g4
     go_enter Tryz.func78,Tryz.ntmps78
     go_wp2_with fail
     refine (HF.out _).mono ?_;rintro e w1 ⟨rfl,hb1⟩;obtain ⟨hc1,hf1⟩:=bO hb1
     have hz1x0:w.heap.size<w1.heap.size:=by have:=hb1.size;first|omega|(simp at this;omega)
     go_wp2_with fail
     refine (HT.out _).mono ?_;rintro e w2 ⟨rfl,hb2⟩;obtain ⟨hc2,hf2⟩:=bO hb2
     have hz2x0:w.heap.size<w2.heap.size:=by have:=hb2.size;first|omega|(simp at this;omega)
     go_wp2_with fail
     refine (HL.out _).mono ?_;rintro e w3 ⟨rfl,hb3⟩;obtain ⟨hc3,hf3⟩:=bO hb3
     have hz3x0:w.heap.size<w3.heap.size:=by have:=hb3.size;first|omega|(simp at this;omega)
     go_wp2_with fail
     go_ret
     exact aG rfl rfl (ae (ae (ae (HB.out _) hb1) hb2) hb3)
    ·rw [g4] at HL
     cases g5:fb p.name
     ·have hnn:=HNN.out;rw [g5] at hnn
      cases g6:dp p.name
      ·rw [g6] at HN
       have hfin:bL p=false:=by simp [bL,g1,g2,g3,g4,g5,g6]
       rw [hfin];clear hfin HX HS g1 g2 g4 g5 g6
       go_enter Tryz.func78,Tryz.ntmps78
       go_wp2_with fail
       refine (HF.out _).mono ?_;rintro e w1 ⟨rfl,hb1⟩;obtain ⟨hc1,hf1⟩:=bO hb1
       have hz1x0:w.heap.size<w1.heap.size:=by have:=hb1.size;first|omega|(simp at this;omega)
       go_wp2_with fail
       refine (HT.out _).mono ?_;rintro e w2 ⟨rfl,hb2⟩;obtain ⟨hc2,hf2⟩:=bO hb2
       have hz2x0:w.heap.size<w2.heap.size:=by have:=hb2.size;first|omega|(simp at this;omega)
       go_wp2_with fail
       refine (HL.out _).mono ?_;rintro e w3 ⟨rfl,hb3⟩;obtain ⟨hc3,hf3⟩:=bO hb3
       have hz3x0:w.heap.size<w3.heap.size:=by have:=hb3.size;first|omega|(simp at this;omega)
       go_wp2_with fail
       refine (HN.out _).mono ?_;rintro e w4 ⟨rfl,hb4⟩;obtain ⟨hc4,hf4⟩:=bO hb4
       have hz4x0:w.heap.size<w4.heap.size:=by have:=hb4.size;first|omega|(simp at this;omega)
       go_wp2_with fail
       go_ret
       exact aG rfl rfl (ae (ae (ae (ae (HB.out _) hb1) hb2) hb3) hb4)
      ·rw [g6] at HN
       have hfin:bL p=du p.expr (.mk 0 ⟨#[]⟩ []):=by simp [bL,g1,g2,g3,g4,g5,g6]
       rw [hfin];clear hfin HX g1 g2 g4 g5 g6
       go_enter Tryz.func78,Tryz.ntmps78
       go_wp2_with fail
       refine (HF.out _).mono ?_;rintro e w1 ⟨rfl,hb1⟩;obtain ⟨hc1,hf1⟩:=bO hb1
       have hz1x0:w.heap.size<w1.heap.size:=by have:=hb1.size;first|omega|(simp at this;omega)
       go_wp2_with fail
       refine (HT.out _).mono ?_;rintro e w2 ⟨rfl,hb2⟩;obtain ⟨hc2,hf2⟩:=bO hb2
       have hz2x0:w.heap.size<w2.heap.size:=by have:=hb2.size;first|omega|(simp at this;omega)
       go_wp2_with fail
       refine (HL.out _).mono ?_;rintro e w3 ⟨rfl,hb3⟩;obtain ⟨hc3,hf3⟩:=bO hb3
       have hz3x0:w.heap.size<w3.heap.size:=by have:=hb3.size;first|omega|(simp at this;omega)
       go_wp2_with fail
       refine (HN.out _).mono ?_;rintro e w4 ⟨rfl,hb4⟩;obtain ⟨hc4,hf4⟩:=bO hb4
       have hz4x0:w.heap.size<w4.heap.size:=by have:=hb4.size;first|omega|(simp at this;omega)
       go_wp2_with fail
       refine (HS.out _ (ae (ae (ae (ae (HB.out _) hb1) hb2) hb3) hb4)).mono ?_;rintro e w5 ⟨rfl,hb5⟩;obtain ⟨hc5,hf5⟩:=bO hb5
       have hz5x0:w.heap.size<w5.heap.size:=by have:=hb5.size;first|omega|(simp at this;omega)
       go_wp2_with fail
       go_ret
       exact aG rfl rfl (ae (ae (ae (ae (ae (HB.out _) hb1) hb2) hb3) hb4) hb5)
     ·have hnn:=HNN.out;rw [g5] at hnn
      have hfin:bL p=du p.expr (.mk 0 ⟨#[]⟩ []):=by simp [bL,g1,g2,g3,g4,g5]
      rw [hfin];clear hfin HX HN g1 g2 g4 g5
      go_enter Tryz.func78,Tryz.ntmps78
      go_wp2_with fail
      refine (HF.out _).mono ?_;rintro e w1 ⟨rfl,hb1⟩;obtain ⟨hc1,hf1⟩:=bO hb1
      have hz1x0:w.heap.size<w1.heap.size:=by have:=hb1.size;first|omega|(simp at this;omega)
      go_wp2_with fail
      refine (HT.out _).mono ?_;rintro e w2 ⟨rfl,hb2⟩;obtain ⟨hc2,hf2⟩:=bO hb2
      have hz2x0:w.heap.size<w2.heap.size:=by have:=hb2.size;first|omega|(simp at this;omega)
      go_wp2_with fail
      refine (HL.out _).mono ?_;rintro e w3 ⟨rfl,hb3⟩;obtain ⟨hc3,hf3⟩:=bO hb3
      have hz3x0:w.heap.size<w3.heap.size:=by have:=hb3.size;first|omega|(simp at this;omega)
      go_wp2_with fail
      refine (HS.out _ (ae (ae (ae (HB.out _) hb1) hb2) hb3)).mono ?_;rintro e w4 ⟨rfl,hb4⟩;obtain ⟨hc4,hf4⟩:=bO hb4
      have hz4x0:w.heap.size<w4.heap.size:=by have:=hb4.size;first|omega|(simp at this;omega)
      go_wp2_with fail
      go_ret
      exact aG rfl rfl (ae (ae (ae (ae (HB.out _) hb1) hb2) hb3) hb4)
   ·have hsum:=HSUM.out;have hcat:=HCAT.out
    cases g4:fb p.label&&fb p.name
    ·rw [g4] at hcat
     have hfin:bL p=false:=by simp [bL,g1,g2,g3,g4]
     rw [hfin];clear hfin HL HN HX HS g1 g2 g4
     go_enter Tryz.func78,Tryz.ntmps78
     go_wp2_with fail
     refine (HF.out _).mono ?_;rintro e w1 ⟨rfl,hb1⟩;obtain ⟨hc1,hf1⟩:=bO hb1
     have hz1x0:w.heap.size<w1.heap.size:=by have:=hb1.size;first|omega|(simp at this;omega)
     go_wp2_with fail
     refine (HT.out _).mono ?_;rintro e w2 ⟨rfl,hb2⟩;obtain ⟨hc2,hf2⟩:=bO hb2
     have hz2x0:w.heap.size<w2.heap.size:=by have:=hb2.size;first|omega|(simp at this;omega)
     go_wp2_with fail
     go_ret
     exact aG rfl rfl (ae (ae (HB.out _) hb1) hb2)
    ·rw [g4] at hcat
     have hfin:bL p=aT p.expr:=by simp [bL,g1,g2,g3,g4]
     rw [hfin];clear hfin HL HN HS g1 g2 g4
     go_enter Tryz.func78,Tryz.ntmps78
     go_wp2_with fail
     refine (HF.out _).mono ?_;rintro e w1 ⟨rfl,hb1⟩;obtain ⟨hc1,hf1⟩:=bO hb1
     have hz1x0:w.heap.size<w1.heap.size:=by have:=hb1.size;first|omega|(simp at this;omega)
     go_wp2_with fail
     refine (HT.out _).mono ?_;rintro e w2 ⟨rfl,hb2⟩;obtain ⟨hc2,hf2⟩:=bO hb2
     have hz2x0:w.heap.size<w2.heap.size:=by have:=hb2.size;first|omega|(simp at this;omega)
     go_wp2_with fail
     refine (HX.out _ (ae (ae (HB.out _) hb1) hb2)).mono ?_;rintro e w3 ⟨rfl,hb3⟩;obtain ⟨hc3,hf3⟩:=bO hb3
     have hz3x0:w.heap.size<w3.heap.size:=by have:=hb3.size;first|omega|(simp at this;omega)
     go_wp2_with fail
     go_ret
     exact aG rfl rfl (ae (ae (ae (HB.out _) hb1) hb2) hb3)
theorem Eo (c:ff) (w:World) (ho:c.ok):Calls Tryz.prog 80 #[.agg #[.int .i64 c.op, .int .i64 c.left.kind, .string c.left.name, .string c.left.key, .int .i64 c.left.val.kind, .int .i64 c.left.val.num, .string c.left.val.text, .int .i64 c.right.kind, .string c.right.name, .string c.right.key, .int .i64 c.right.val.kind, .int .i64 c.right.val.num, .string c.right.val.text]] w (jW w (.bool (dt c))):=by
 have H0:=Lib.hid (fun W=>gn c.op 1 6 W);have H1:=Lib.hid (fun W=>kj c.left W ho.1);have H2:=Lib.hid (fun W=>kj c.right W ho.2);have HB:=Lib.hid (fun ob=>((Below.refl w.heap.size w).alloc (Q5 _) ob));clear ho
 cases g0:nj c.op 1 6
 ·rw [g0] at H0
  have hfin:dt c=false:=by simp [dt,g0]
  rw [hfin];clear hfin H1 H2 g0
  go_enter Tryz.func80,Tryz.ntmps80
  go_wp2_with fail
  refine (H0.out _).mono ?_;rintro e w' ⟨rfl,rfl⟩
  go_wp2_with fail
  go_ret
  exact aG rfl rfl (HB.out _)
 ·rw [g0] at H0
  cases g1:bl c.left
  ·rw [g1] at H1
   have hfin:dt c=false:=by simp [dt,g0,g1]
   rw [hfin];clear hfin H2 g0 g1
   go_enter Tryz.func80,Tryz.ntmps80
   go_wp2_with fail
   refine (H0.out _).mono ?_;rintro e w' ⟨rfl,rfl⟩
   go_wp2_with fail
   refine (H1.out _).mono ?_;rintro e w1 ⟨rfl,hb1⟩;obtain ⟨hc1,hf1⟩:=bO hb1
   have hz1x0:w.heap.size<w1.heap.size:=by have:=hb1.size;first|omega|(simp at this;omega)
   go_wp2_with fail
   go_ret
   exact aG rfl rfl (ae (HB.out _) hb1)
  ·rw [g1] at H1
   have hfin:dt c=bl c.right:=by simp [dt,g0,g1]
   rw [hfin];clear hfin g0 g1
   go_enter Tryz.func80,Tryz.ntmps80
   go_wp2_with fail
   refine (H0.out _).mono ?_;rintro e w' ⟨rfl,rfl⟩
   go_wp2_with fail
   refine (H1.out _).mono ?_;rintro e w1 ⟨rfl,hb1⟩;obtain ⟨hc1,hf1⟩:=bO hb1
   have hz1x0:w.heap.size<w1.heap.size:=by have:=hb1.size;first|omega|(simp at this;omega)
   go_wp2_with fail
   refine (H2.out _).mono ?_;rintro e w2 ⟨rfl,hb2⟩;obtain ⟨hc2,hf2⟩:=bO hb2
   have hz2x0:w.heap.size<w2.heap.size:=by have:=hb2.size;first|omega|(simp at this;omega)
   go_wp2_with fail
   go_ret
   exact aG rfl rfl (ae (ae (HB.out _) hb1) hb2)
theorem Gd (o:dM) (w:World) (ho:o.ok):Calls Tryz.prog 82 #[.agg #[.int .i64 o.kind, .string o.name, .string o.key, .int .i64 o.val.kind, .int .i64 o.val.num, .string o.val.text]] w (jW w (.bool (eF o))):=by
 have H1:=Lib.hid (fun W=>kj o W ho);have HB:=Lib.hid (fun ob=>((Below.refl w.heap.size w).alloc (Q5 _) ob));clear ho
 cases g0:o.kind !=3
 ·have hfin:eF o=false:=by simp only [eF,g0,Bool.false_and]
  rw [hfin];clear hfin H1
  go_enter Tryz.func82,Tryz.ntmps82
  go_wp2_with fail
  go_ret
  exact aG rfl rfl (HB.out _)
 ·have hfin:eF o=bl o:=by simp only [eF,g0,Bool.true_and]
  rw [hfin];clear hfin
  go_enter Tryz.func82,Tryz.ntmps82
  go_wp2_with fail
  refine (H1.out _).mono ?_;rintro e w1 ⟨rfl,hb1⟩;obtain ⟨hc1,hf1⟩:=bO hb1
  have hz1x0:w.heap.size<w1.heap.size:=by have:=hb1.size;first|omega|(simp at this;omega)
  go_wp2_with fail
  go_ret
  exact aG rfl rfl (ae (HB.out _) hb1)
def tZ {α:Type} (q:α->Bool) (xs:List α):Int:=match xs.findIdx? q with|some k=>k|none=> -1
theorem ua {α:Type} {q:α->Bool} {xs:List α} {k:Nat} (hk:k<xs.length) (hx:q xs[k]=true) (h: ∀j (_:j<k) (h':j<xs.length),q xs[j]=false):tZ q xs=k:=by
 have:xs.findIdx? q=some k:=by
  rw [SE];exact ⟨hk,hx,fun j hj=>by rw [h j hj (by omega)];decide⟩
 rw [tZ,this]
theorem ny {α:Type} {q:α->Bool} {xs:List α} (h: ∀j (h:j<xs.length),q xs[j]=false):tZ q xs = -1:=by
 have:xs.findIdx? q=none:=by
  rw [SF];intro x hx;obtain ⟨j,hj,rfl⟩:=List.getElem_of_mem hx;exact h j hj
 rw [tZ,this]
theorem qa {α:Type} (q:α->Bool) (xs:List α):decide (0<=tZ q xs)=xs.any q:=by
 unfold tZ
 cases h:xs.findIdx? q with
 | none=>
  rw [SF] at h;simp only [show decide ((0:Int) <= -1)=false by decide];rw [eq_comm,List.any_eq_false]
  exact fun x hx=>by rw [h x hx];decide
 | some k=>
  rw [SE] at h;obtain ⟨h1,h2,_⟩:=h;rw [decide_eq_true (by simp),eq_comm,List.any_eq_true];exact ⟨xs[k],S9 _,h2⟩
theorem lD {α:Type} (p:α->Bool) (xs:List α):(!xs.any (fun x=> !p x))=xs.all p:=by
 induction xs with
 | nil=>rfl
 | cons x xs ih=>simp [<-ih]
def gL (f:FuncId) (cap:List Value) (q:bQ->Bool) (w:World):Prop:= ∀(x:bQ) (k:Int) (s:ByteArray) (l:List Ex) (v:Value) (W:World),Below w.heap.size w W->x.ok->x.expr = .mk k s l->dm W l v ->
 Calls Tryz.prog f (.agg #[.string x.aR, .string x.to, .bool x.path, .string x.label, .string x.name, .int .i64 k, .string s,v] :: cap).toArray W (jW W (.bool (q x)))
theorem gL.later {f:FuncId} {cap:List Value} {q:bQ->Bool} {w w':World} (h:gL f cap q w) (hb:Below w.heap.size w w'):gL f cap q w':=
 fun x k s l v W hW=>h x k s l v W (ae hb hW)
theorem yP (f:FuncId) (q:bQ->Bool) (B:Nat) (w:World) (hB:w.heap[B]? = some (.cells #[.func (.func f) #[] #[]] 127)) (hf:gL f [] q w)
  (hcf: ∀args w,(callFunc f args).run Tryz.prog w = .ok (.enter f args) w) :
  gL 119 [.pointer (some ⟨B,0,none⟩)] (fun x=> !q x) w:=by
 intro x k s l v W hW ho he hr;have hbx:=(hW.block B (Q8.1 hB).1).trans hB;have hc0:=ax hbx 0;have hlt:=(Q8.1 hbx).1;simp only [Rr,Su] at hc0;have HB:=Lib.hid (fun ob=>((Below.refl W.heap.size W).alloc (Q5 _) ob));have HC:=Lib.hid (fun W' (hb:Below W.heap.size W W')=>hf x k s l v W' (ae hW hb) ho he (hr.below hb));obtain ⟨pv,cv,rfl, -, -⟩:=hr.shape;clear hf hB hbx hW ho he hr
 go_enter Tryz.func119,Tryz.ntmps119
 go_wp2_with fail
 refine (HC.out _ (HB.out _)).mono ?_;rintro e w1 ⟨rfl,hb1⟩
 go_wp2_with fail
 go_ret
 exact aG rfl rfl (ae (HB.out _) hb1)
theorem uf (f:FuncId) (cap:List Value) (q:bQ->Bool) (xs:List bQ) (vx:Value) (w:World) (h1:jk w xs vx) (hok: ∀x,x∈xs->x.ok) (hf:gL f cap q w)
  (hcf: ∀args w,(callFunc f args).run Tryz.prog w = .ok (.enter f args) w) :
  Calls Tryz.prog 159 #[vx, .func (.func f) #[] cap.toArray] w (jW w (.int .i64 (tZ q xs))):=by
 obtain ⟨p,c,rfl,hc1,hc2⟩:=h1.shape;unfold maxLen at hc2;have H1:=Lib.hid h1;have HF:=Lib.hid hf;have HO:=Lib.hid hok;clear h1 hf hok
 go_enter Tryz.func159,Tryz.ntmps159
 go_wp2_with fail
 go_loopw [4,8] (fun r i wr=>r = .int .i64 0∧ ∃k:Nat,k<=xs.length∧i = .int .i64 k∧Below w.heap.size w wr∧ ∀j (h:j<k) (h':j<xs.length),q xs[j]=false) (fun _ i _=>xs.length - (intOf i).toNat)
 case atStart=>exact ⟨rfl,0,Nat.zero_le _,rfl,Below.refl _ _,fun j h=>by omega⟩
 case round=>
  obtain ⟨rfl,k,hk,rfl,hb,hP⟩:=hrel;have HP:=Lib.hid hP;clear hP
  by_cases hlt:k<xs.length
  ·obtain ⟨b1,o1,k1,s1,l1,v1,rfl,hx1,hr1,a0,a1,a2,a3,a4,a5,a6,a7⟩:=s6 (jE hb H1.out) hlt;have HC:=Lib.hid (HF.out xs[k] k1 s1 l1 v1 wr hb (HO.out _ (S9 _)) hx1 hr1);clear hx1 hr1
   cases hs:q xs[k]
   ·rw [hs] at HC;have HS:=Lib.hid hs;clear hs
    go_wp2_with fail
    refine HC.out.mono ?_;rintro e w' ⟨rfl,hb'⟩
    go_wp2_with fail
    go_roundw
    case rel=>exact ⟨rfl,k+1,by omega,by go_num,ae hb hb',fun j h h'=>by
     by_cases e:j=k
     ·subst e;exact HS.out
     ·exact HP.out j (by omega) h'⟩
    case measure=>simp [intOf];omega
   ·rw [hs] at HC;have HS:=Lib.hid hs;clear hs
    go_wp2_with fail
    refine HC.out.mono ?_;rintro e w' ⟨rfl,hb'⟩
    go_wp2_with fail
    go_ret
    exact s8 rfl (ua hlt HS.out HP.out).symm (ae hb hb')
  ·go_wp2_with fail
   go_ret
   exact s8 rfl (ny (fun j h=>HP.out j (by omega) h)).symm hb
theorem oJ (f:FuncId) (cap:List Value) (q:bQ->Bool) (xs:List bQ) (vx:Value) (w:World) (h1:jk w xs vx) (hok: ∀x,x∈xs->x.ok) (hf:gL f cap q w)
  (hcf: ∀args w,(callFunc f args).run Tryz.prog w = .ok (.enter f args) w) :
  Calls Tryz.prog 118 #[vx, .func (.func f) #[] cap.toArray] w (jW w (.bool (xs.any q))):=by
 have HC:=Lib.hid (uf f cap q xs vx w h1 hok hf hcf);clear h1 hf hok hcf;rw [<-qa]
 go_enter Tryz.func118,Tryz.ntmps118
 go_wp2_with fail
 refine HC.out.mono ?_;rintro e w' ⟨rfl,hb'⟩
 go_wp2_with fail
 go_ret
 exact aG rfl rfl hb'
theorem Ey (f:FuncId) (q:bQ->Bool) (xs:List bQ) (vx:Value) (w:World) (h1:jk w xs vx) (hok: ∀x,x∈xs->x.ok) (hf:gL f [] q w)
  (hcf: ∀args w,(callFunc f args).run Tryz.prog w = .ok (.enter f args) w) :
  Calls Tryz.prog 77 #[vx, .func (.func f) #[] #[]] w (jW w (.bool (xs.all q))):=by
 have hb:Below w.heap.size w (w.alloc (.cells #[.func (.func f) #[] #[]] 127)):=(Below.refl _ _).alloc (Q5 _) _;have HC:=Lib.hid (oJ 119 [.pointer (some ⟨w.heap.size,0,none⟩)] (fun x=> !q x) xs vx _ (jE hb h1) hok (yP f q w.heap.size _ (cM w _) (hf.later hb) hcf) (enters_of Tryz.func119 (by kernel_rfl) rfl));have HB:=Lib.hid hb;clear h1 hf hok hcf hb;rw [<-lD]
 go_enter Tryz.func77,Tryz.ntmps77
 go_wp2_with fail
 refine HC.out.mono ?_;rintro e w' ⟨rfl,hb'⟩
 go_wp2_with fail
 go_ret
 exact aG rfl rfl (ae HB.out hb')
def gJ (f:FuncId) (cap:List Value) (q:ff->Bool) (w:World):Prop:= ∀(x:ff) (W:World),Below w.heap.size w W->x.ok ->
 Calls Tryz.prog f (.agg #[.int .i64 x.op, .int .i64 x.left.kind, .string x.left.name, .string x.left.key, .int .i64 x.left.val.kind, .int .i64 x.left.val.num, .string x.left.val.text, .int .i64 x.right.kind, .string x.right.name, .string x.right.key, .int .i64 x.right.val.kind, .int .i64 x.right.val.num, .string x.right.val.text] :: cap).toArray W (jW W (.bool (q x)))
theorem gJ.later {f:FuncId} {cap:List Value} {q:ff->Bool} {w w':World} (h:gJ f cap q w) (hb:Below w.heap.size w w'):gJ f cap q w':=
 fun x W hW=>h x W (ae hb hW)
theorem yN (f:FuncId) (q:ff->Bool) (B:Nat) (w:World) (hB:w.heap[B]? = some (.cells #[.func (.func f) #[] #[]] 129)) (hf:gJ f [] q w)
  (hcf: ∀args w,(callFunc f args).run Tryz.prog w = .ok (.enter f args) w) :
  gJ 124 [.pointer (some ⟨B,0,none⟩)] (fun x=> !q x) w:=by
 intro x W hW ho;have hbx:=(hW.block B (Q8.1 hB).1).trans hB;have hc0:=ax hbx 0;have hlt:=(Q8.1 hbx).1;simp only [Rr,Su] at hc0;have HB:=Lib.hid (fun ob=>((Below.refl W.heap.size W).alloc (Q5 _) ob));have HC:=Lib.hid (fun W' (hb:Below W.heap.size W W')=>hf x W' (ae hW hb) ho);clear hf hB hbx hW ho
 go_enter Tryz.func124,Tryz.ntmps124
 go_wp2_with fail
 refine (HC.out _ (HB.out _)).mono ?_;rintro e w1 ⟨rfl,hb1⟩
 go_wp2_with fail
 go_ret
 exact aG rfl rfl (ae (HB.out _) hb1)
theorem uc (f:FuncId) (cap:List Value) (q:ff->Bool) (xs:List ff) (vx:Value) (w:World) (h1:ly w xs vx) (hok: ∀x,x∈xs->x.ok) (hf:gJ f cap q w)
  (hcf: ∀args w,(callFunc f args).run Tryz.prog w = .ok (.enter f args) w) :
  Calls Tryz.prog 164 #[vx, .func (.func f) #[] cap.toArray] w (jW w (.int .i64 (tZ q xs))):=by
 obtain ⟨p,c,rfl,hc1,hc2⟩:=h1.shape;unfold maxLen at hc2;have H1:=Lib.hid h1;have HF:=Lib.hid hf;have HO:=Lib.hid hok;clear h1 hf hok
 go_enter Tryz.func164,Tryz.ntmps164
 go_wp2_with fail
 go_loopw [4,8] (fun r i wr=>r = .int .i64 0∧ ∃k:Nat,k<=xs.length∧i = .int .i64 k∧Below w.heap.size w wr∧ ∀j (h:j<k) (h':j<xs.length),q xs[j]=false) (fun _ i _=>xs.length - (intOf i).toNat)
 case atStart=>exact ⟨rfl,0,Nat.zero_le _,rfl,Below.refl _ _,fun j h=>by omega⟩
 case round=>
  obtain ⟨rfl,k,hk,rfl,hb,hP⟩:=hrel;have HP:=Lib.hid hP;clear hP
  by_cases hlt:k<xs.length
  ·obtain ⟨b1,o1,rfl,a0,a1,a2,a3,a4,a5,a6,a7,a8,a9,a10,a11,a12⟩:=C6 (H1.out.below hb) hlt;have HC:=Lib.hid (HF.out xs[k] wr hb (HO.out _ (S9 _)))
   cases hs:q xs[k]
   ·rw [hs] at HC;have HS:=Lib.hid hs;clear hs
    go_wp2_with fail
    refine HC.out.mono ?_;rintro e w' ⟨rfl,hb'⟩
    go_wp2_with fail
    go_roundw
    case rel=>exact ⟨rfl,k+1,by omega,by go_num,ae hb hb',fun j h h'=>by
     by_cases e:j=k
     ·subst e;exact HS.out
     ·exact HP.out j (by omega) h'⟩
    case measure=>simp [intOf];omega
   ·rw [hs] at HC;have HS:=Lib.hid hs;clear hs
    go_wp2_with fail
    refine HC.out.mono ?_;rintro e w' ⟨rfl,hb'⟩
    go_wp2_with fail
    go_ret
    exact s8 rfl (ua hlt HS.out HP.out).symm (ae hb hb')
  ·go_wp2_with fail
   go_ret
   exact s8 rfl (ny (fun j h=>HP.out j (by omega) h)).symm hb
theorem oF (f:FuncId) (cap:List Value) (q:ff->Bool) (xs:List ff) (vx:Value) (w:World) (h1:ly w xs vx) (hok: ∀x,x∈xs->x.ok) (hf:gJ f cap q w)
  (hcf: ∀args w,(callFunc f args).run Tryz.prog w = .ok (.enter f args) w) :
  Calls Tryz.prog 123 #[vx, .func (.func f) #[] cap.toArray] w (jW w (.bool (xs.any q))):=by
 have HC:=Lib.hid (uc f cap q xs vx w h1 hok hf hcf);clear h1 hf hok hcf;rw [<-qa]
 go_enter Tryz.func123,Tryz.ntmps123
 go_wp2_with fail
 refine HC.out.mono ?_;rintro e w' ⟨rfl,hb'⟩
 go_wp2_with fail
 go_ret
 exact aG rfl rfl hb'
theorem Ev (f:FuncId) (q:ff->Bool) (xs:List ff) (vx:Value) (w:World) (h1:ly w xs vx) (hok: ∀x,x∈xs->x.ok) (hf:gJ f [] q w)
  (hcf: ∀args w,(callFunc f args).run Tryz.prog w = .ok (.enter f args) w) :
  Calls Tryz.prog 79 #[vx, .func (.func f) #[] #[]] w (jW w (.bool (xs.all q))):=by
 have hb:Below w.heap.size w (w.alloc (.cells #[.func (.func f) #[] #[]] 129)):=(Below.refl _ _).alloc (Q5 _) _;have HC:=Lib.hid (oF 124 [.pointer (some ⟨w.heap.size,0,none⟩)] (fun x=> !q x) xs vx _ (h1.below hb) hok (yN f q w.heap.size _ (cM w _) (hf.later hb) hcf) (enters_of Tryz.func124 (by kernel_rfl) rfl));have HB:=Lib.hid hb;clear h1 hf hok hcf hb;rw [<-lD]
 go_enter Tryz.func79,Tryz.ntmps79
 go_wp2_with fail
 refine HC.out.mono ?_;rintro e w' ⟨rfl,hb'⟩
 go_wp2_with fail
 go_ret
 exact aG rfl rfl (ae HB.out hb')
def gK (f:FuncId) (cap:List Value) (q:dM->Bool) (w:World):Prop:= ∀(x:dM) (W:World),Below w.heap.size w W->x.ok ->
 Calls Tryz.prog f (.agg #[.int .i64 x.kind, .string x.name, .string x.key, .int .i64 x.val.kind, .int .i64 x.val.num, .string x.val.text] :: cap).toArray W (jW W (.bool (q x)))
theorem gK.later {f:FuncId} {cap:List Value} {q:dM->Bool} {w w':World} (h:gK f cap q w) (hb:Below w.heap.size w w'):gK f cap q w':=
 fun x W hW=>h x W (ae hb hW)
theorem yO (f:FuncId) (q:dM->Bool) (B:Nat) (w:World) (hB:w.heap[B]? = some (.cells #[.func (.func f) #[] #[]] 131)) (hf:gK f [] q w)
  (hcf: ∀args w,(callFunc f args).run Tryz.prog w = .ok (.enter f args) w) :
  gK 127 [.pointer (some ⟨B,0,none⟩)] (fun x=> !q x) w:=by
 intro x W hW ho;have hbx:=(hW.block B (Q8.1 hB).1).trans hB;have hc0:=ax hbx 0;have hlt:=(Q8.1 hbx).1;simp only [Rr,Su] at hc0;have HB:=Lib.hid (fun ob=>((Below.refl W.heap.size W).alloc (Q5 _) ob));have HC:=Lib.hid (fun W' (hb:Below W.heap.size W W')=>hf x W' (ae hW hb) ho);clear hf hB hbx hW ho
 go_enter Tryz.func127,Tryz.ntmps127
 go_wp2_with fail
 refine (HC.out _ (HB.out _)).mono ?_;rintro e w1 ⟨rfl,hb1⟩
 go_wp2_with fail
 go_ret
 exact aG rfl rfl (ae (HB.out _) hb1)
theorem ue (f:FuncId) (cap:List Value) (q:dM->Bool) (xs:List dM) (vx:Value) (w:World) (h1:jj w xs vx) (hok: ∀x,x∈xs->x.ok) (hf:gK f cap q w)
  (hcf: ∀args w,(callFunc f args).run Tryz.prog w = .ok (.enter f args) w) :
  Calls Tryz.prog 166 #[vx, .func (.func f) #[] cap.toArray] w (jW w (.int .i64 (tZ q xs))):=by
 obtain ⟨p,c,rfl,hc1,hc2⟩:=h1.shape;unfold maxLen at hc2;have H1:=Lib.hid h1;have HF:=Lib.hid hf;have HO:=Lib.hid hok;clear h1 hf hok
 go_enter Tryz.func166,Tryz.ntmps166
 go_wp2_with fail
 go_loopw [4,8] (fun r i wr=>r = .int .i64 0∧ ∃k:Nat,k<=xs.length∧i = .int .i64 k∧Below w.heap.size w wr∧ ∀j (h:j<k) (h':j<xs.length),q xs[j]=false) (fun _ i _=>xs.length - (intOf i).toNat)
 case atStart=>exact ⟨rfl,0,Nat.zero_le _,rfl,Below.refl _ _,fun j h=>by omega⟩
 case round=>
  obtain ⟨rfl,k,hk,rfl,hb,hP⟩:=hrel;have HP:=Lib.hid hP;clear hP
  by_cases hlt:k<xs.length
  ·obtain ⟨b1,o1,rfl,a0,a1,a2,a3,a4,a5⟩:=nH (H1.out.below hb) hlt;have HC:=Lib.hid (HF.out xs[k] wr hb (HO.out _ (S9 _)))
   cases hs:q xs[k]
   ·rw [hs] at HC;have HS:=Lib.hid hs;clear hs
    go_wp2_with fail
    refine HC.out.mono ?_;rintro e w' ⟨rfl,hb'⟩
    go_wp2_with fail
    go_roundw
    case rel=>exact ⟨rfl,k+1,by omega,by go_num,ae hb hb',fun j h h'=>by
     by_cases e:j=k
     ·subst e;exact HS.out
     ·exact HP.out j (by omega) h'⟩
    case measure=>simp [intOf];omega
   ·rw [hs] at HC;have HS:=Lib.hid hs;clear hs
    go_wp2_with fail
    refine HC.out.mono ?_;rintro e w' ⟨rfl,hb'⟩
    go_wp2_with fail
    go_ret
    exact s8 rfl (ua hlt HS.out HP.out).symm (ae hb hb')
  ·go_wp2_with fail
   go_ret
   exact s8 rfl (ny (fun j h=>HP.out j (by omega) h)).symm hb
theorem oH (f:FuncId) (cap:List Value) (q:dM->Bool) (xs:List dM) (vx:Value) (w:World) (h1:jj w xs vx) (hok: ∀x,x∈xs->x.ok) (hf:gK f cap q w)
  (hcf: ∀args w,(callFunc f args).run Tryz.prog w = .ok (.enter f args) w) :
  Calls Tryz.prog 126 #[vx, .func (.func f) #[] cap.toArray] w (jW w (.bool (xs.any q))):=by
 have HC:=Lib.hid (ue f cap q xs vx w h1 hok hf hcf);clear h1 hf hok hcf;rw [<-qa]
 go_enter Tryz.func126,Tryz.ntmps126
 go_wp2_with fail
 refine HC.out.mono ?_;rintro e w' ⟨rfl,hb'⟩
 go_wp2_with fail
 go_ret
 exact aG rfl rfl hb'
theorem Ew (f:FuncId) (q:dM->Bool) (xs:List dM) (vx:Value) (w:World) (h1:jj w xs vx) (hok: ∀x,x∈xs->x.ok) (hf:gK f [] q w)
  (hcf: ∀args w,(callFunc f args).run Tryz.prog w = .ok (.enter f args) w) :
  Calls Tryz.prog 81 #[vx, .func (.func f) #[] #[]] w (jW w (.bool (xs.all q))):=by
 have hb:Below w.heap.size w (w.alloc (.cells #[.func (.func f) #[] #[]] 131)):=(Below.refl _ _).alloc (Q5 _) _;have HC:=Lib.hid (oH 127 [.pointer (some ⟨w.heap.size,0,none⟩)] (fun x=> !q x) xs vx _ (h1.below hb) hok (yO f q w.heap.size _ (cM w _) (hf.later hb) hcf) (enters_of Tryz.func127 (by kernel_rfl) rfl));have HB:=Lib.hid hb;clear h1 hf hok hcf hb;rw [<-lD]
 go_enter Tryz.func81,Tryz.ntmps81
 go_wp2_with fail
 refine HC.out.mono ?_;rintro e w' ⟨rfl,hb'⟩
 go_wp2_with fail
 go_ret
 exact aG rfl rfl (ae HB.out hb')
end Go.Proofs.YtjcobjgjjlahdaaGreatDoor
