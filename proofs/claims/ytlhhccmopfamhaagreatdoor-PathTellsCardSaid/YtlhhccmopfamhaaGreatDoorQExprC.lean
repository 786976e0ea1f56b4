/- texts of one claim, one behind the other. -/
import Derived.KernelRfl
import Derived.Test.YtlhhccmopfamhaaGreatDoorProg
import Derived.Test.YtlhhccmopfamhaaGreatDoorQAbsJ
import Derived.Test.YtlhhccmopfamhaaGreatDoorQFen
import Derived.Test.YtlhhccmopfamhaaGreatDoorQValue
import Derived.StillTailTactics
import Derived.Test.YtlhhccmopfamhaaGreatDoorQGo
import Derived.Sort.Grow
import Derived.Shelf.Sort.Plain
import Derived.Shelf.Slices.CompactI
import Derived.Shelf.Slices.In.SortNone
import Derived.Shelf.Spec.SlicesGrow
set_option linter.unusedSimpArgs false
set_option linter.unusedVariables false
set_option maxRecDepth 100000
set_option maxHeartbeats 16000000
open Array renaming replicate_succ -> afF, replicate_zero -> afG, getElem?_modify -> ae3
open Bool renaming false_and -> afL, and_false -> afW, eq_false_or_eq_true -> af1, and_eq_true -> ae6
open List renaming size_toArray -> afj, length_cons -> afa, length_nil -> aeq, push_toArray -> afH, append_toArray -> afI, nil_append -> afJ, cons_append -> afK, getElem?_toArray -> aeD, getElem?_cons_succ -> afE, getElem?_cons_zero -> afD, zip_cons_cons -> afM, zip_nil_left -> afN, foldl_cons -> afO, foldl_nil -> afP, setIfInBounds_toArray -> afQ, set_cons_succ -> afR, set_cons_zero -> afS, getElem?_eq_some_iff -> aeu, getElem?_set_self -> aeG, getElem?_set_ne -> aeH, getElem?_eq_getElem -> aeC, mem_of_getElem? -> aeQ, replicate_succ -> afU, replicate_zero -> afV, eq_nil_of_length_eq_zero -> afX, getElem_mem -> afy, length_append -> aew, flatMap_cons -> afY, mem_cons -> afZ, mem_flatMap -> af0, mem_cons_self -> afr, mem_cons_of_mem -> ae7, all_eq_true -> afh
open Nat renaming zero_le -> aex, le_trans -> aeo, le_refl -> aen, lt_or_ge -> aes
open Go.Sort renaming heap_ahead -> afT
open Option.some renaming injEq -> aez
open Prod.mk renaming injEq -> aeA
namespace Go.Proofs.YtlhhccmopfamhaaGreatDoor
open Go.RowKit
open Go.Proofs.Tryz
section
theorem aej:prog.underlying 3=some (.int .i64):=zo
theorem adv:dc prog 3=some (false):=zo
theorem acU:bQ prog 3=some (1):=zo
theorem acY:de prog 3=some ([.v (.int .i64 0)]):=zo
theorem ab0:vK prog 3=some (.v (.int .i64 0)):=zo
theorem adw:dc prog 4=some (false):=zo
theorem acV:bQ prog 4=some (1):=zo
theorem acZ:de prog 4=some ([.v (.bool false)]):=zo
theorem aek:prog.underlying 5=some (.int .u8):=zo
theorem adx:dc prog 5=some (false):=zo
theorem acW:bQ prog 5=some (1):=zo
theorem ael:prog.underlying 9=some (.string):=zo
theorem ady:dc prog 9=some (false):=zo
theorem acX:bQ prog 9=some (1):=zo
theorem ac0:de prog 9=some ([.v (.string ⟨#[]⟩)]):=zo
theorem aci:dc prog 22=some (false):=zo
theorem abl:bQ prog 22=some (1):=zo
theorem adM:prog.underlying 23=some (.slice 25):=zo
theorem acj:dc prog 23=some (false):=zo
theorem abm:bQ prog 23=some (1):=zo
theorem adH:Rr prog 23=some (3):=zo
theorem acA:jP prog 23=some (25,3,48):=zo
theorem ack:dc prog 25=some (true):=zo
theorem abn:bQ prog 25=some (3):=zo
theorem abC:de prog 25=some ([.v (.int .i64 0),.v (.string ⟨#[]⟩),.v (.slice none 0 0)]):=zo
theorem Zx:c6 prog 25 0=some (0):=zo
theorem Zy:c6 prog 25 1=some (1):=zo
theorem Zz:c6 prog 25 2=some (2):=zo
theorem adz:zy prog 25=some ([(0,1),(1,1),(2,1)],[.v (.int .i64 0),.v (.string ⟨#[]⟩),.v (.slice none 0 0)]):=zo
theorem adN:prog.underlying 26=some (.slice 35):=zo
theorem aaM:vK prog 26=some (.v (.slice none 0 0)):=zo
theorem adI:Rr prog 26=some (5):=zo
theorem acB:jP prog 26=some (35,5,80):=zo
theorem adO:prog.underlying 29=some (.slice 37):=zo
theorem acC:jP prog 29=some (37,3,40):=zo
theorem adP:prog.underlying 33=some (.slice 173):=zo
theorem acm:dc prog 33=some (false):=zo
theorem abo:bQ prog 33=some (1):=zo
theorem adJ:Rr prog 33=some (4):=zo
theorem acD:jP prog 33=some (173,4,48):=zo
theorem acn:dc prog 35=some (true):=zo
theorem abp:bQ prog 35=some (5):=zo
theorem abD:de prog 35=some ([.v (.string ⟨#[]⟩),.v (.string ⟨#[]⟩),.v (.string ⟨#[]⟩),.v (.int .i64 0),.v (.slice none 0 0)]):=zo
theorem ZA:c6 prog 35 0=some (0):=zo
theorem ZB:c6 prog 35 1=some (1):=zo
theorem ZC:c6 prog 35 2=some (2):=zo
theorem ZD:c6 prog 35 3=some (3):=zo
theorem ZE:c6 prog 35 4=some (4):=zo
theorem adA:zy prog 35=some ([(0,1),(1,1),(2,1),(3,1),(4,1)],[.v (.string ⟨#[]⟩),.v (.string ⟨#[]⟩),.v (.string ⟨#[]⟩),.v (.int .i64 0),.v (.slice none 0 0)]):=zo
theorem aco:dc prog 37=some (true):=zo
theorem abq:bQ prog 37=some (3):=zo
theorem abE:de prog 37=some ([.v (.string ⟨#[]⟩),.v (.string ⟨#[]⟩),.v (.int .i64 0)]):=zo
theorem ZF:c6 prog 37 0=some (0):=zo
theorem ZG:c6 prog 37 1=some (1):=zo
theorem ZH:c6 prog 37 2=some (2):=zo
theorem adB:zy prog 37=some ([(0,1),(1,1),(2,1)],[.v (.string ⟨#[]⟩),.v (.string ⟨#[]⟩),.v (.int .i64 0)]):=zo
theorem adQ:prog.underlying 41=some (.slice 61):=zo
theorem adK:Rr prog 41=some (3):=zo
theorem acE:jP prog 41=some (61,3,40):=zo
theorem adR:prog.underlying 55=some (.slice 9):=zo
theorem acp:dc prog 55=some (false):=zo
theorem abr:bQ prog 55=some (1):=zo
theorem adL:Rr prog 55=some (1):=zo
theorem acF:jP prog 55=some (9,1,16):=zo
theorem adS:prog.underlying 56=some (.slice 3):=zo
theorem acq:dc prog 56=some (false):=zo
theorem abt:bQ prog 56=some (1):=zo
theorem abF:de prog 56=some ([.v (.slice none 0 0)]):=zo
theorem acG:jP prog 56=some (3,1,8):=zo
theorem acr:dc prog 61=some (true):=zo
theorem abu:bQ prog 61=some (3):=zo
theorem abG:de prog 61=some ([.v (.string ⟨#[]⟩),.v (.string ⟨#[]⟩),.v (.int .i64 0)]):=zo
theorem ZI:c6 prog 61 0=some (0):=zo
theorem ZJ:c6 prog 61 1=some (1):=zo
theorem ZK:c6 prog 61 2=some (2):=zo
theorem adC:zy prog 61=some ([(0,1),(1,1),(2,1)],[.v (.string ⟨#[]⟩),.v (.string ⟨#[]⟩),.v (.int .i64 0)]):=zo
theorem adT:prog.underlying 63=some (.pointer 125):=zo
theorem acs:dc prog 63=some (false):=zo
theorem abv:bQ prog 63=some (1):=zo
theorem adU:prog.underlying 64=some (.map 9 26):=zo
theorem acu:dc prog 64=some (false):=zo
theorem abw:bQ prog 64=some (1):=zo
theorem acv:dc prog 66=some (true):=zo
theorem abx:bQ prog 66=some (2):=zo
theorem abH:de prog 66=some ([.v (.pointer none),.v (.map none)]):=zo
theorem ZL:c6 prog 66 0=some (0):=zo
theorem ZM:c6 prog 66 1=some (1):=zo
theorem adD:zy prog 66=some ([(0,1),(1,1)],[.v (.pointer none),.v (.map none)]):=zo
theorem adV:prog.underlying 70=some (.map 74 3):=zo
theorem acw:dc prog 70=some (false):=zo
theorem aby:bQ prog 70=some (1):=zo
theorem abI:de prog 70=some ([.v (.map none)]):=zo
theorem acx:dc prog 74=some (true):=zo
theorem abz:bQ prog 74=some (2):=zo
theorem abJ:de prog 74=some ([.v (.string ⟨#[]⟩),.v (.string ⟨#[]⟩)]):=zo
theorem ZN:c6 prog 74 0=some (0):=zo
theorem ZO:c6 prog 74 1=some (1):=zo
theorem adE:zy prog 74=some ([(0,1),(1,1)],[.v (.string ⟨#[]⟩),.v (.string ⟨#[]⟩)]):=zo
theorem acy:dc prog 79=some (true):=zo
theorem abA:bQ prog 79=some (2):=zo
theorem abK:de prog 79=some ([.v (.string ⟨#[]⟩),.v (.int .i64 0)]):=zo
theorem ZP:c6 prog 79 0=some (0):=zo
theorem ZQ:c6 prog 79 1=some (1):=zo
theorem adF:zy prog 79=some ([(0,1),(1,1)],[.v (.string ⟨#[]⟩),.v (.int .i64 0)]):=zo
theorem adW:prog.underlying 89=some (.slice 92):=zo
theorem acH:jP prog 89=some (92,3,32):=zo
theorem acz:dc prog 92=some (true):=zo
theorem abB:bQ prog 92=some (3):=zo
theorem abL:de prog 92=some ([.v (.string ⟨#[]⟩),.v (.int .i64 0),.v (.int .i64 0)]):=zo
theorem ZR:c6 prog 92 0=some (0):=zo
theorem ZS:c6 prog 92 1=some (1):=zo
theorem ZT:c6 prog 92 2=some (2):=zo
theorem adG:zy prog 92=some ([(0,1),(1,1),(2,1)],[.v (.string ⟨#[]⟩),.v (.int .i64 0),.v (.int .i64 0)]):=zo
theorem ac3:prog.underlying 107=some (.map 79 3):=zo
theorem ac4:prog.underlying 108=some (.map 79 3):=zo
theorem aaR:dc prog 108=some (false):=zo
theorem ZU:bQ prog 108=some (1):=zo
theorem aah:de prog 108=some ([.v (.map none)]):=zo
theorem ac5:prog.underlying 109=some (.slice 79):=zo
theorem aaS:dc prog 109=some (false):=zo
theorem ZV:bQ prog 109=some (1):=zo
theorem aai:de prog 109=some ([.v (.slice none 0 0)]):=zo
theorem abc:jP prog 109=some (79,2,24):=zo
theorem ac6:prog.underlying 110=some (.pointer 162):=zo
theorem aaT:dc prog 110=some (false):=zo
theorem ZW:bQ prog 110=some (1):=zo
theorem aaj:de prog 110=some ([.v (.pointer none)]):=zo
theorem aaU:dc prog 115=some (true):=zo
theorem ZX:bQ prog 115=some (2):=zo
theorem aak:de prog 115=some ([.v (.int .i64 0),.v (.int .i64 0)]):=zo
theorem XM:c6 prog 115 0=some (0):=zo
theorem XN:c6 prog 115 1=some (1):=zo
theorem acI:zy prog 115=some ([(0,1),(1,1)],[.v (.int .i64 0),.v (.int .i64 0)]):=zo
theorem ac7:prog.underlying 120=some (.slice 164):=zo
theorem aaV:dc prog 120=some (false):=zo
theorem ZY:bQ prog 120=some (1):=zo
theorem abd:jP prog 120=some (164,1,8):=zo
theorem ac8:prog.underlying 121=some (.slice 4):=zo
theorem aaW:dc prog 121=some (false):=zo
theorem ZZ:bQ prog 121=some (1):=zo
theorem aal:de prog 121=some ([.v (.slice none 0 0)]):=zo
theorem abe:jP prog 121=some (4,1,1):=zo
theorem aaX:dc prog 123=some (true):=zo
theorem Z0:bQ prog 123=some (2):=zo
theorem aam:de prog 123=some ([.v (.slice none 0 0),.v (.slice none 0 0)]):=zo
theorem XO:c6 prog 123 0=some (0):=zo
theorem XP:c6 prog 123 1=some (1):=zo
theorem acJ:zy prog 123=some ([(0,1),(1,1)],[.v (.slice none 0 0),.v (.slice none 0 0)]):=zo
theorem XQ:c6 prog 125 0=some (0):=zo
theorem acK:zy prog 125=some ([(0,2),(2,1)],[.v (.slice none 0 0),.v (.slice none 0 0),.v (.slice none 0 0)]):=zo
theorem ac9:prog.underlying 129=some (.slice 74):=zo
theorem aaY:dc prog 129=some (false):=zo
theorem Z3:bQ prog 129=some (1):=zo
theorem abf:jP prog 129=some (74,2,32):=zo
theorem ada:prog.underlying 137=some (.slice 56):=zo
theorem aaZ:dc prog 137=some (false):=zo
theorem Z4:bQ prog 137=some (1):=zo
theorem abg:jP prog 137=some (56,1,24):=zo
theorem XR:c6 prog 139 0=some (0):=zo
theorem XS:c6 prog 139 1=some (1):=zo
theorem XT:c6 prog 139 2=some (2):=zo
theorem acL:zy prog 139=some ([(0,1),(1,1),(2,1)],[.v (.slice none 0 0),.v (.slice none 0 0),.v (.slice none 0 0)]):=zo
theorem adb:prog.underlying 149=some (.pointer 188):=zo
theorem aa0:dc prog 149=some (false):=zo
theorem Z5:bQ prog 149=some (1):=zo
theorem aa1:dc prog 153=some (false):=zo
theorem Z6:bQ prog 153=some (1):=zo
theorem ade:prog.underlying 160=some (.slice 115):=zo
theorem aa2:dc prog 160=some (false):=zo
theorem Z7:bQ prog 160=some (1):=zo
theorem abh:jP prog 160=some (115,2,16):=zo
theorem XU:c6 prog 162 0=some (0):=zo
theorem XV:c6 prog 162 1=some (1):=zo
theorem acM:zy prog 162=some ([(0,1),(1,1)],[.v (.slice none 0 0),.v (.bool false)]):=zo
theorem adf:prog.underlying 163=some (.map 9 3):=zo
theorem adg:prog.underlying 164=some (.map 9 3):=zo
theorem aa3:dc prog 164=some (false):=zo
theorem Z8:bQ prog 164=some (1):=zo
theorem aan:de prog 164=some ([.v (.map none)]):=zo
theorem aa4:dc prog 169=some (false):=zo
theorem Z9:bQ prog 169=some (1):=zo
theorem aa5:dc prog 171=some (true):=zo
theorem aaa:bQ prog 171=some (3):=zo
theorem XW:c6 prog 171 0=some (0):=zo
theorem XX:c6 prog 171 1=some (1):=zo
theorem XY:c6 prog 171 2=some (2):=zo
theorem acN:zy prog 171=some ([(0,1),(1,1),(2,1)],[.v (.int .i64 0),.v (.int .i64 0),.v (.string ⟨#[]⟩)]):=zo
theorem aa6:dc prog 173=some (true):=zo
theorem aab:bQ prog 173=some (4):=zo
theorem aao:de prog 173=some ([.v (.string ⟨#[]⟩),.v (.int .i64 0),.v (.int .i64 0),.v (.string ⟨#[]⟩)]):=zo
theorem XZ:c6 prog 173 0=some (0):=zo
theorem X0:c6 prog 173 1=some (1):=zo
theorem acO:zy prog 173=some ([(0,1),(1,3)],[.v (.string ⟨#[]⟩),.v (.int .i64 0),.v (.int .i64 0),.v (.string ⟨#[]⟩)]):=zo
theorem abk:lS prog 173=some ([.s,.i,.i,.s]):=zo
theorem aa7:dc prog 185=some (false):=zo
theorem aac:bQ prog 185=some (1):=zo
theorem aap:de prog 185=some ([.v (.int .u32 0)]):=zo
theorem adh:prog.underlying 186=some (.array 25 185):=zo
theorem X1:c6 prog 188 0=some (0):=zo
theorem X2:c6 prog 188 1=some (1):=zo
theorem X3:c6 prog 188 2=some (26):=zo
theorem X4:c6 prog 188 3=some (27):=zo
theorem acP:zy prog 188=some ([(0,1),(1,25),(26,1),(27,1)],[.v (.slice none 0 0),.v (.int .u32 0),.v (.int .u32 0),.v (.int .u32 0),.v (.int .u32 0),.v (.int .u32 0),.v (.int .u32 0),.v (.int .u32 0),.v (.int .u32 0),.v (.int .u32 0),.v (.int .u32 0),.v (.int .u32 0),.v (.int .u32 0),.v (.int .u32 0),.v (.int .u32 0),.v (.int .u32 0),.v (.int .u32 0),.v (.int .u32 0),.v (.int .u32 0),.v (.int .u32 0),.v (.int .u32 0),.v (.int .u32 0),.v (.int .u32 0),.v (.int .u32 0),.v (.int .u32 0),.v (.int .u32 0),.v (.int .u32 0),.v (.bool false)]):=zo
theorem aa8:dc prog 190=some (true):=zo
theorem aad:bQ prog 190=some (2):=zo
theorem aaq:de prog 190=some ([.v (.int .u32 0),.v (.int .u32 0)]):=zo
theorem X5:c6 prog 190 0=some (0):=zo
theorem X6:c6 prog 190 1=some (1):=zo
theorem acQ:zy prog 190=some ([(0,1),(1,1)],[.v (.int .u32 0),.v (.int .u32 0)]):=zo
theorem adi:prog.underlying 199=some (.map 3 3):=zo
theorem aa9:dc prog 199=some (false):=zo
theorem aae:bQ prog 199=some (1):=zo
theorem aar:de prog 199=some ([.v (.map none)]):=zo
theorem adj:prog.underlying 208=some (.array 2 3):=zo
theorem acR:zy prog 208=some ([(0,1),(1,1)],[.v (.int .i64 0),.v (.int .i64 0)]):=zo
theorem adk:prog.underlying 219=some (.slice 121):=zo
theorem aba:dc prog 219=some (false):=zo
theorem aaf:bQ prog 219=some (1):=zo
theorem abi:jP prog 219=some (121,1,24):=zo
theorem X7:c6 prog 221 0=some (0):=zo
theorem X8:c6 prog 221 1=some (1):=zo
theorem X9:c6 prog 221 2=some (2):=zo
theorem Ya:c6 prog 221 3=some (3):=zo
theorem Yb:c6 prog 221 4=some (4):=zo
theorem acS:zy prog 221=some ([(0,1),(1,1),(2,1),(3,1),(4,1),(5,3)],[.v (.slice none 0 0),.v (.slice none 0 0),.v (.slice none 0 0),.v (.slice none 0 0),.v (.bool false),.v (.int .i64 0),.v (.string ⟨#[]⟩),.v (.slice none 0 0)]):=zo
theorem abb:dc prog 258=some (true):=zo
theorem aag:bQ prog 258=some (3):=zo
theorem aas:de prog 258=some ([.v (.slice none 0 0),.v (.slice none 0 0),.v (.bool false)]):=zo
theorem Yc:c6 prog 258 0=some (0):=zo
theorem Yd:c6 prog 258 1=some (1):=zo
theorem Ye:c6 prog 258 2=some (2):=zo
theorem acT:zy prog 258=some ([(0,1),(1,1),(2,1)],[.v (.slice none 0 0),.v (.slice none 0 0),.v (.bool false)]):=zo
theorem adl:prog.underlying 286=some (.slice 258):=zo
theorem abj:jP prog 286=some (258,3,56):=zo
theorem adm:prog.underlying 301=some (.array 32 5):=zo
attribute [go_sem] aej adv acU acY ab0 adw acV acZ aek adx acW ael ady acX ac0 aci abl adM acj abm adH acA ack abn abC Zx Zy Zz adz adN aaM adI acB adO acC adP acm abo adJ acD acn abp abD ZA ZB ZC ZD ZE adA aco abq abE ZF ZG ZH adB adQ adK acE adR acp abr adL acF adS acq abt abF acG acr abu abG ZI ZJ ZK adC adT acs abv adU acu abw acv abx abH ZL ZM adD adV acw aby abI acx abz abJ ZN ZO adE acy abA abK ZP ZQ adF adW acH acz abB abL ZR ZS ZT adG ac3 ac4 aaR ZU aah ac5 aaS ZV aai abc ac6 aaT ZW aaj aaU ZX aak XM XN acI ac7 aaV ZY abd ac8 aaW ZZ aal abe aaX Z0 aam XO XP acJ XQ acK ac9 aaY Z3 abf ada aaZ Z4 abg XR XS XT acL adb aa0 Z5 aa1 Z6 ade aa2 Z7 abh XU XV acM adf adg aa3 Z8 aan aa4 Z9 aa5 aaa XW XX XY acN aa6 aab aao XZ X0 acO abk aa7 aac aap adh X1 X2 X3 X4 acP aa8 aad aaq X5 X6 acQ adi aa9 aae aar adj acR adk aba aaf abi X7 X8 X9 Ya Yb acS abb aag aas Yc Yd Ye acT adl abj adm
open Go.RowKit Go.Shelf
attribute [local go_sem] Oper.semAt_some
def WOk(J Jx:Pi->World->Prop)(Kp:World->World->Prop)(pre:Pi)(xs:IO)(W:World)(e:Ending)(W':World):Prop:=
 (e=.returned (.bool true)∧(∃L,L.map XC.sig=xs.map Ex.sig∧J (pre++L) W')∧Kp W W') ∨
 (e=.returned (.bool false)∧∃q,q.map XC.sig <+:xs.map Ex.sig∧Jx (pre++q) W')
def WalkC(F:Fence)(l N lo hi:Nat)(et:TypeId)(J Jx:Pi->World->Prop)(w0:World)(x:Ex):Prop:=
 ∀(n:Nat)(cx:IR)(pre:Pi)(W:World),fE w0 x cx->x.ok->Cells w0 W->hi<=W.heap.size->J pre W->pre.length+(aq x).length<=N ->
  CallsIn F n prog 110 #[.agg cx.toArray,.func (.yield l) #[] #[]] W (WOk J Jx (Kept lo hi et) pre (aq x) W)
theorem Nt(F:Fence)(hF:∀f,F.fn f)(hd:F.depth=none)(hro:F.round=none)(l N lo hi:Nat)(et:TypeId)(het:25≠et)(J Jx:Pi->World->Prop)(w0:World)(hlo:w0.heap.size<=lo)
  (hJ:∀pre W o,J pre W->J pre (W.alloc o))
  (hY:∀m pre(c:XC)W,J pre W->pre.length<N->YieldAt F m prog l #[c.val] W (YOk J Jx (Kept lo hi et) pre c W))(x:Ex):WalkC F l N lo hi et J Jx w0 x:=by
 induction x using Ex.ind with
 |h k s kids ih=>
  intro n cx pre W hx hok hb hhi hj hN;rw[fE]at hx;obtain⟨sv,rfl,hr⟩:=hx;obtain⟨p,c,rfl,hc1,hc2⟩:=hr.shape;rw[Ex.ok]at hok;obtain⟨hs,O⟩:=hok
  replace hs:=hs.len
  rw[aq]at hN⊢
  have hdd:∀k:Nat,(F.depth.isSome=true->1<=k):=λk h=>by rw[hd]at h;cases h
  obtain⟨xc,hxv,hxs⟩:∃xc:XC,xc.val=.agg #[.int .i64 k,.string s,.slice p kids.length c]∧xc.sig=(k,s,kids.length):=⟨⟨k,s,p,kids.length,c,hs,zd⟩,rfl,rfl⟩;have hy1:=hY (n-1) pre xc (W.alloc (.cells #[.int .i64 k,.string s,.slice p kids.length c] 25)) (hJ _ _ _ hj) (by simp at hN;omega);obtain⟨fn,tmps,assign,body,hy,hR⟩:=hy1;rw[hxv]at hy;have HR:=Lib.hid hR;clear hR;have HX:=Lib.hid ih;have HO:=Lib.hid (qn.1 O);have HRd:=Lib.hid hr;have HBl:=Lib.hid hb;have HNN:=Lib.hid hN;have HJ:=Lib.hid hJ;have HXS:=Lib.hid hxs
  have HW:Hid (W.heap.size<(W.alloc (.cells #[.int .i64 k,.string s,.slice p kids.length c] 25)).heap.size):=by show _<_;simp
  have HB:Hid ((W.alloc (.cells #[.int .i64 k,.string s,.slice p kids.length c] 25)).heap[W.heap.size]?=some (.cells #[.int .i64 k,.string s,.slice p kids.length c] 25)):=by show _=_;exact gT _ _
  clear ih O hr hb hN hj hs hY hJ hxv hxs;unfold maxLen at hc2;refine callsIn_of_wp func110 rfl (hF _) ?_ hro;simp only[ntmps110,afj,afa,aeq,Nat.reduceAdd,Nat.reduceSub,afF,afG,afH,afI,afJ,afK]
  gi_wp2_with fail
  refine HR.out.mono ?_
  rintro e W2 (⟨rfl,hJ2,Y⟩|⟨rfl,hx2⟩)
  ·have H:=Y.box hhi het HB.out;have hk1:Kept lo hi et W W2:=(Kept.alloc W _).trans Y;have hce:=aC H 2;have HH:=Lib.hid H;have HK:=Lib.hid hk1;have HJ2:=Lib.hid hJ2;clear H hk1 Y hJ2;simp only[aeD,afE,afD]at hce
   gi_wp2_with fail
   gi_loopw [4,14] (λr i wr=>r=.bool false∧∃k:Nat,i=.int .i64 k∧k<=kids.length∧Kept lo hi et W wr∧∃L,L.map XC.sig=((bZ (kids.take k))).map Ex.sig∧J (pre++[xc]++L) wr) (λ_ i _=>kids.length-(intOf i).toNat)
   case atStart=>exact⟨rfl,0,rfl,aex _,HK.out,[],rfl,by simpa using HJ2.out⟩
   case round=>
    obtain⟨rfl,i,rfl,hik,hkw,L,hL,hJL⟩:=hrel;have HKW:=Lib.hid hkw;have HL:=Lib.hid hL;have HJL:=Lib.hid hJL
    have hlen:L.length=(bZ (kids.take i)).length:=by have:=congrArg List.length hL;simpa using this
    clear hkw hL hJL
    by_cases hlt:i<kids.length
    ·have A:=HKW.out.cells HBl.out hlo;obtain⟨b1,o1,k1,s1,l1,v1,rfl,hx1,U,a0,a1,a2⟩:=HRd.out.at hlt;obtain⟨p1,c1,rfl, -, -⟩:=U.shape
     replace a0:=A _ _ _ a0
     replace a1:=A _ _ _ a1
     replace a2:=A _ _ _ a2
     have hq1:=nW a0;have u:kids[i]∈kids:=List.getElem_mem _
     have hrx:fE w0 kids[i] [.int .i64 k1,.string s1,.slice p1 l1.length c1]:=by rw[hx1,fE];exact⟨_,rfl,U⟩
     have V:=rH hlt
     have hbd:(pre++[xc]++L).length+(aq kids[i]).length<=N:=by
      have h1:=HNN.out;have h2:=uH kids (i+1);rw[V]at h2;simp at h1 h2⊢;omega
     have HH1:=Lib.hid (λm W' hcc hh hj=>HX.out kids[i] u m _ (pre++[xc]++L) W' hrx (HO.out _ u) hcc hh hj hbd);have HCW:=Lib.hid A;have HPP:=Lib.hid V;have hhw:=aeo hhi HKW.out.size;have HB2:=Lib.hid (λo=>Kept.alloc (lo:=lo) (hi:=hi) (e:=et) wr o)
     have HS2:Hid (∀o:Obj,hi<=(wr.alloc o).heap.size):=λo=>ahy
     have HJJ:Hid (∀o:Obj,J (pre++[xc]++L) (wr.alloc o)):=λo=>HJ.out _ _ _ HJL.out;have HC2:Hid (∀o:Obj,Cells w0 (wr.alloc o)):=λo=>(HB2.out o).cells HCW.out hlo;clear hx1 U A u hrx V hbd hlen
     gi_wp2_with fail
     refine(HH1.out _ _ (HC2.out _) (HS2.out _) (HJJ.out _)).mono ?_
     rintro e W3 (⟨rfl,⟨L3,hL3,hJ3⟩,hk3⟩|⟨rfl,q,hq,hx3⟩)
     ·have HL3:=Lib.hid hL3;have HJ3:=Lib.hid hJ3;have HK3:=Lib.hid (HKW.out.trans ((HB2.out _).trans hk3));clear hL3 hJ3 hk3
      gi_wp2_with fail
      go_roundw
      case rel=>exact⟨rfl,i+1,by go_num,zd,HK3.out,L++L3,by rw[HPP.out];simp[HL.out,HL3.out],by simpa using HJ3.out⟩
      case measure=>simp[intOf];omega
     ·have HQ:=Lib.hid hq;have HX3:=Lib.hid hx3;clear hq hx3
      gi_wp2_with fail
      go_ret
      refine .inr ⟨rfl,[xc]++(L++q),?_,by simpa using HX3.out⟩;obtain⟨r,hr⟩:=HQ.out;have h2:=kB (kids.take (i+1)) (kids.drop (i+1));rw[List.take_append_drop,HPP.out]at h2;refine⟨r++(bZ (kids.drop (i+1))).map Ex.sig,?_⟩;rw[h2];simp[HXS.out,Ex.sig,HL.out, <- hr]
    ·gi_wp2
     go_ret
     obtain rfl:i=kids.length:=zd
     refine .inl ⟨rfl,⟨[xc]++L,?_,by simpa using HJL.out⟩,HKW.out⟩;simp[HXS.out,Ex.sig,HL.out]
  ·gi_wp2
   go_ret
   exact .inr ⟨rfl,[xc],by simp[HXS.out,Ex.sig],hx2⟩
theorem v8(F:Fence)(hF:∀f,F.fn f)(hd:F.depth=none)(H:F.round=none)(n lo hi B:Nat)(et:TypeId)(het:25≠et)(x:Ex)(cx:IR)(w0 w:World)(Y:w0.heap.size<=lo)(hhi:hi<=w.heap.size)
  (A:fE w0 x cx)(V:x.ok)(hc:Cells w0 w)(hB:w.heap[B]?=some (.cells cx.toArray 25)) :
  SeqStopsK F n prog 109 #[.pointer (some ⟨B,0,none⟩)] (λc:XC=> #[c.val]) (Kept lo hi et) (λL=>L.map XC.sig=(aq x).map Ex.sig) (λq=>q.map XC.sig <+:(aq x).map Ex.sig) (aq x).length w:=by
 intro l J Jx W U hJ hJx hY h0;have hw:=Nt F hF hd H l (aq x).length lo hi et het J Jx w0 Y (λpre W o h=>hJ pre _ _ none h (World.grownBy_alloc W o none) (λr e=>by cases e)) (λm pre c W hj hl=>vD hd m (hY pre c W hj hl)) x (n-1) cx [] W A V (hc.trans (.of U)) (aeo hhi U.size) h0 zk;obtain⟨k,s,kids⟩:=x;rw[fE]at A;obtain⟨sv,rfl,hr⟩:=A;obtain⟨p,c,rfl, -, -⟩:=hr.shape;have u:=(U.block B (Array.getElem?_eq_some_iff.1 hB).1).trans hB;have c0:=aC u 0;have c1:=aC u 1;have c2:=aC u 2;simp only[aeD,afE,afD]at c0 c1 c2;have HW:=Lib.hid hw
 have hdd:∀k:Nat,(F.depth.isSome=true->1<=k):=λk h=>by rw[hd]at h;cases h
 clear hw hJ hJx hY h0 hr u hB hc U;refine callsIn_of_wp func109 rfl (hF _) ?_ H;simp only[ntmps109,afj,afa,aeq,Nat.reduceAdd,Nat.reduceSub,afF,afG,afH,afI,afJ,afK]
 gi_wp2_with fail
 refine HW.out.mono ?_
 rintro e W1 (⟨rfl,⟨L,hL,O⟩, -⟩|⟨rfl,q,hq,A⟩)
 ·have HL:=Lib.hid hL;have HJ1:=Lib.hid O;clear hL O
  gi_wp2
  go_end0
  exact⟨⟨_,rfl⟩,.inl ⟨L,HL.out,by simpa using HJ1.out⟩⟩
 ·have HQ:=Lib.hid hq;have HX:=Lib.hid A;clear hq A
  gi_wp2
  go_end0
  exact⟨⟨_,rfl⟩,.inr ⟨q,HQ.out,by simpa using HX.out⟩⟩
theorem Bc(k:Int)(s:ByteArray)(p:Option Addr)(n c:Nat)(w:World) :
  Calls prog 75 #[.agg #[.int .i64 k,.string s,.slice p n c]] w λe w'=>e=.returned (.func (.func 109) #[] #[.pointer (some ⟨w.heap.size,0,none⟩)])∧w.alloc (.cells #[.int .i64 k,.string s,.slice p n c] 25)=w':=by
 go_enter func75,ntmps75
 go_wp2_with fail
 go_ret
 exact⟨rfl,rfl⟩
open Go.RowKit Go.Shelf
attribute [local go_sem] Oper.semAt_some
theorem Cq{x:Ex}{q:Pi}(h:q.map XC.sig <+:(aq x).map Ex.sig)(u:24<q.length∨∃c,c∈q∧v7 c.sig=false):aD x=false:=by
 rw[vO];obtain⟨r,A⟩:=h;rw[<-A]
 rcases u with u|⟨c,O,H⟩
 ·rw[decide_eq_false ahy,afL]
 ·have:(q.map XC.sig++r).all v7=false:=by
   rw[List.all_eq_false];exact⟨c.sig,by simp;exact .inl ⟨c,O,rfl⟩,by rw[H];decide⟩
  rw[this,Bool.and_false]
theorem Cp{x:Ex}{q:Pi}(h:q.map XC.sig=(aq x).map Ex.sig)(u:q.length<=24)(A:∀c,c∈q->v7 c.sig=true):aD x=true:=by
 rw[vO, <- h,decide_eq_true (by simpa using u),Bool.true_and,List.all_map,List.all_eq_true];exact A
theorem zI(x:Ex)(cx:IR)(w:World)(hx:fE w x cx)(hok:x.ok) :
  Calls prog 46 #[.agg cx.toArray] w (Ha w (.bool (aD x))):=by
 obtain⟨k,s,kids⟩:=x;have hx':=hx;rw[fE]at hx;obtain⟨sv,rfl,hr⟩:=hx;obtain⟨p,c,rfl, -, -⟩:=hr.shape;refine(callsIn_wide (n:=9)).1 ?_;have HX:=Lib.hid hx';have HO:=Lib.hid hok;clear hx' hok hr;refine callsIn_of_wp_marks func46 rfl trivial ?_ rfl;simp only[ntmps46,afj,afa,aeq,Nat.reduceAdd,Nat.reduceSub,afF,afG,afH,afI,afJ,afK]
 gi_wp2_with fail
 refine⟨trivial,?_⟩;refine(callsIn_wide.2 (Bc _ _ _ _ _ _)).mono ?_;rintro e w' ⟨rfl,rfl⟩
 gi_wp2_with fail
 obtain⟨bx,hbx⟩:∃bx:Obj,bx=.cells #[.int .i64 k,.string s,.slice p kids.length c] 25:=⟨_,rfl⟩;rw[<-hbx];obtain⟨W0,hW0⟩:∃W0,(((w.alloc bx).alloc (.cells #[.bool false] 4)).alloc (.cells #[.int .i64 0] 3)).alloc bx=W0:=⟨_,rfl⟩
 have hs0:W0.heap.size=w.heap.size+4:=by rw[<-hW0];simp
 have hb0:Below w.heap.size w W0:=by rw[<-hW0];exact((((Below.refl w.heap.size w).alloc (aen _) _).alloc zk _).alloc ahy _).alloc ahy _
 have hbr:W0.heap[w.heap.size+1]?=some (.cells #[.bool false] 4 (0,0)):=by rw[<-hW0];exact l9 (l9 (by simpa using gT (w.alloc bx) _) _) _
 have hbn:W0.heap[w.heap.size+2]?=some (.cells #[.int .i64 0] 3 (0,0)):=by rw[<-hW0];exact l9 (by simpa using gT ((w.alloc bx).alloc (.cells #[.bool false] 4)) _) _
 have hbp:W0.heap[w.heap.size+3]?=some bx:=by rw[<-hW0];simpa using gT (((w.alloc bx).alloc (.cells #[.bool false] 4)).alloc (.cells #[.int .i64 0] 3)) bx
 rw[hbx]at hbp;have hseq:=v8 Fence.wide (λ_=>trivial) rfl rfl 8 w.heap.size (w.heap.size+3) (w.heap.size+3) 0 zs _ _ w W0 (aen _) zd HX.out HO.out (.of hb0) hbp;rw[hW0];clear hbx
 refine QQ (lb:= #[.pointer (some ⟨w.heap.size+3,0,none⟩)]) (gf:=109) rfl (enters_of func109 zo rfl) hseq (Below.refl _ _) (λ_=>rfl)
  (λpre W=>(Below w.heap.size w W∧W.heap[w.heap.size+2]?=some (.cells #[.int .i64 pre.length] 3 (0,0))∧W.heap[w.heap.size+1]?=some (.cells #[.bool false] 4 (0,0))∧W0.heap.size<=W.heap.size)∧pre.length<=24∧∀c,c∈pre->v7 c.sig=true)
  (λc pre W=>(Below w.heap.size w W∧W.heap[w.heap.size+1]?=some (.cells #[.bool false] 4 (0,0)))∧c=.ret∧(24<pre.length∨∃c,c∈pre∧v7 c.sig=false))
  (((ownFrom_below (aen _) zd).and ((mf _ _ (λs:Pi=> #[.int .i64 s.length]) _).and ((mf _ _ (λ_:Pi=> #[.bool false]) _).and (λ_ _ _ _ hs hg _=>aeo hs hg.size)))).and (ownFrom_pure _ _))
  (λ_=>((ownFrom_below (aen _) zd).and (mf _ _ (λ_:Pi=> #[.bool false]) _)).and (ownFrom_pure _ _))
  ⟨⟨hb0,hbn,hbr,aen _⟩,aex _,λ_ h=>by cases h⟩ 4 (λc=> #[.int .i64 c.kind,.string c.label,.slice c.ptr c.len c.cap]) 25 (λ_ _ h=>h.1.2.2.2) ?assign ?body ?done ?stop
 case assign=>
  intro l x W K hK;simp only[handed,XC.val,afM,afN,afO,afP,afQ,afR,afS];simp only[handed,XC.val,Act.sa,afM,afN,afO,afP,afQ,afR,afS]at hK
  gi_wp2
  exact hK
 case body=>
  rintro l pre x B W hl hrec ⟨⟨hb,hn,hr,hsz⟩,hle,hall⟩ hB hbB hlen;have hcn:=aC hn 0;have hfn:=dq hn 0;have hcr:=aC hr 0;have hfr:=dq hr 0;have hp0:=aC hbB 0;have hp1:=aC hbB 1;have hp2:=aC hbB 2;simp only[aeD,afD,afE]at hcn hcr hp0 hp1 hp2
  have hB1: ¬B=w.heap.size+2:=zd
  have hB2: ¬w.heap.size+2=B:=zd
  obtain⟨W1,hW1⟩:∃W1,W1=W.setCell ⟨w.heap.size+2,0,none⟩ (.int .i64 ((pre.length:Int)+1)):=⟨_,rfl⟩
  have V:Kept w.heap.size (w.heap.size+3) 0 W W1:=by rw[hW1];exact Kept.setCell W zd zd _
  have H:KeepsFrom W0.heap.size W W1:=by rw[hW1];exact(KeepsOthers.setCell _ _ _).from _
  have q:Below w.heap.size w W1:=by rw[hW1];exact hb.setCell (p:=⟨w.heap.size+2,0,none⟩) zk _
  have U:W1.heap[w.heap.size+2]?=some (.cells #[.int .i64 ((pre++[x]).length:Nat)] 3 (0,0)):=by rw[hW1];simpa using ln hn (.int .i64 ((pre.length:Int)+1))
  have A:W1.heap[w.heap.size+1]?=some (.cells #[.bool false] 4 (0,0)):=by rw[hW1];exact fG hr _ zd
  have O:W0.heap.size<=W1.heap.size:=by rw[hW1];exact aeo hsz (KeepsOthers.setCell _ _ _).size
  have HA:=Lib.hid (show _∧_∧_∧_∧_∧_ from⟨V,H,q,U,A,O⟩)
  have hzl:w.heap.size+1<W1.heap.size:=zd
  have HP:=Lib.hid (λW'=>Qo x.kind x.label x.ptr x.len x.cap W' x.hl x.hn);have HS:Hid (∀b,bO x.kind x.label x.len=b->v7 x.sig=b):=λb h=>h;have HALL:=Lib.hid hall;have HB0:=Lib.hid hb;have HW1:=Lib.hid hW1;clear hb hn hr hbB V H q U A O hall hW1 hsz;simp only[handed,Act.sa,afM,afN,afO,afP,afQ,afR,afS]
  by_cases h24:pre.length=24
  ·have hgt:(24:Int)<(pre.length:Int)+1:=zd
   have H24:=Lib.hid h24;clear h24;have hcr1:=aC HA.out.2.2.2.2.1 0;have hfr1:=dq HA.out.2.2.2.2.1 0;rw[HW1.out]at hcr1 hfr1;simp only[aeD,afD]at hcr1
   gi_wp2_with fail
   refine⟨trivial,?_⟩
   gi_wp2
   obtain⟨V,H,q,U,A,O⟩:=HA.out;rw[HW1.out]at H q A;refine⟨H.trans ((KeepsOthers.setCell _ _ _).from _),⟨q.setCell (p:=⟨w.heap.size+1,0,none⟩) zk _,ln A _⟩,rfl,.inl (by have:=H24.out;simp;omega)⟩
  ·have hgt: ¬(24:Int)<(pre.length:Int)+1:=zd
   have H24:=Lib.hid h24;clear h24
   cases hpb:bO x.kind x.label x.len
   ·rw[hpb]at HP;have HPB:=Lib.hid (HS.out _ hpb);clear hpb
    gi_wp2_with fail
    refine⟨trivial,(CallsIn.inRound l (callsIn_wide.2 (HP.out _))).mono ?_⟩;rintro e w2 ⟨rfl,u⟩
    have hb2':Below W1.heap.size W1 w2:=by rw[HW1.out];exact u
    clear u;obtain⟨V,H,q,U,A,O⟩:=HA.out;have hr2:w2.heap[w.heap.size+1]?=some (.cells #[.bool false] 4 (0,0)):=(hb2'.block _ zd).trans A;have hcr1:=aC hr2 0;have hfr1:=dq hr2 0;simp only[aeD,afD]at hcr1;have HR2:=Lib.hid hr2;have HB2:=Lib.hid hb2';clear V H q U A O hr2 hb2'
    gi_wp2
    obtain⟨V,H,q,U,A,O⟩:=HA.out;exact⟨(H.trans (oY HB2.out)).trans ((KeepsOthers.setCell _ _ _).from _),⟨(cV q HB2.out).setCell (p:=⟨w.heap.size+1,0,none⟩) zk _,ln HR2.out _⟩,rfl,.inr ⟨x,zk,HPB.out⟩⟩
   ·rw[hpb]at HP;have HPB:=Lib.hid (HS.out _ hpb);clear hpb
    gi_wp2_with fail
    refine⟨trivial,(CallsIn.inRound l (callsIn_wide.2 (HP.out _))).mono ?_⟩;rintro e w2 ⟨rfl,u⟩
    have HB2:Hid (Below W1.heap.size W1 w2):=by show Below _ _ _;rw[HW1.out];exact u
    clear u
    gi_wp2
    obtain⟨V,H,q,U,A,O⟩:=HA.out;have u:=HB2.out;refine⟨H.trans (oY u),V.trans (Kept.below u),⟨cV q u,(u.block _ zd).trans U,(u.block _ zd).trans A,aeo O u.size⟩,by have:=H24.out;simp;omega,?_⟩;intro c hc
    rcases List.mem_append.1 hc with hc|hc
    ·exact HALL.out c hc
    ·rw[List.mem_singleton.1 hc];exact HPB.out
 case done=>
  rintro D xs W hD hS ⟨⟨hb,hn,hr,hsz⟩,hle,hall⟩ hK;have hcr:=aC hr 0;have hfr:=dq hr 0;simp only[aeD,afD]at hcr;have Y:=Cp hS hle hall;have HF:=Lib.hid Y;have HR:=Lib.hid hr;have HB:=Lib.hid hb;have HK:=Lib.hid hK;have HD:=Lib.hid hD;have H0:=Lib.hid hs0;clear hb hn hr hsz hle hall hK hD hS Y hW0 hb0 hbr hbn hbp hseq hs0
  gi_wp2
  have hD:=HD.out;have h0:=H0.out;have hKs:=fG HK.out (b:=w.heap.size+1) (o:=0) (.bool true) zd;refine⟨zk,.inl ⟨_,_,rfl,run_takeDeferred hKs,?_⟩⟩;have hbx:=fF (ln HR.out (.bool true)) (.deferred none) (D:=D) zd;have hcf:=aC hbx 0;simp only[aeD,afD]at hcf
  refine⟨.bool true,?_,cK rfl HF.out.symm ?_⟩
  ·simp[results,results46,go_sem,hcf]
  ·exact nE (HB.out.setCell (p:=⟨w.heap.size+1,0,none⟩) (Nat.le_succ _) _) zd _ hKs
 case stop=>
  rintro D c pre W hD hSp ⟨⟨hb,hr⟩,rfl,hq⟩ hK;have Y:=Cq hSp hq;have HF:=Lib.hid Y;have HR:=Lib.hid hr;have HB:=Lib.hid hb;have HK:=Lib.hid hK;have HD:=Lib.hid hD;have H0:=Lib.hid hs0;clear hb hr hK hD hSp hq Y hW0 hb0 hbr hbn hbp hseq hs0
  gi_wp2
  have hD:=HD.out;have h0:=H0.out;refine⟨zk,.inl ⟨_,_,rfl,run_takeDeferred HK.out,?_⟩⟩;have hbx:=fF HR.out (.deferred none) (D:=D) zd;have hcf:=aC hbx 0;simp only[aeD,afD]at hcf
  refine⟨.bool false,?_,cK rfl HF.out.symm ?_⟩
  ·simp[results,results46,go_sem,hcf]
  ·exact nE HB.out zd _ HK.out
end
def Aj(x:Ex):Prop:=∀(y:Ex)(cx cy:IR)(w:World),fE w x cx->fE w y cy ->
 Calls prog 42 #[.agg cx.toArray,.agg cy.toArray] w (Ha w (.bool (jd x y)))
theorem DF(xs:IO)(hx:∀x,x∈xs->Aj x)(ys:IO)(vx vy:Value)(w:World)(h1:kI w xs vx)(h2:kI w ys vy) :
  Calls prog 72 #[vx,vy] w (Ha w (.bool (mc xs ys))):=by
 rw[rI];obtain⟨p,c,rfl,hc1,hc2⟩:=h1.shape;obtain⟨q,d,rfl,hd1,hd2⟩:=h2.shape;unfold maxLen at hc2 hd2
 by_cases hl:xs.length=ys.length
 ·have H1:=Lib.hid h1;have H2:=Lib.hid h2;have HX:=Lib.hid hx;have HL:=Lib.hid hl
  have hne:(((xs.length:Nat):Int) !=((ys.length:Nat):Int))=false:=by simp[hl]
  clear h1 h2 hx hl
  go_enter func72,ntmps72
  go_wp2_with fail
  go_loopw [4,5] (λr i wr=>∃k:Nat,k<=xs.length∧r=.bool false∧i=.int .i64 k∧Below w.heap.size w wr∧∀j(h:j<k)(h':j<xs.length)(h'':j<ys.length),jd xs[j] ys[j]=true) (λ_ i _=>xs.length-(intOf i).toNat)
  case atStart=>exact⟨0,aex _,rfl,rfl,Below.refl _ _,λj h=>zd⟩
  case round=>
   obtain⟨k,hk,rfl,rfl,hb,hP⟩:=hrel;have HP:=Lib.hid hP;clear hP
   by_cases Y:k<xs.length
   ·have u:k<ys.length:=by have:=HL.out;omega
    obtain⟨b1,o1,k1,s1,l1,v1,rfl,U,W,a0,a1,a2⟩:=(H1.out.below hb).at Y;obtain⟨b2,o2,k2,s2,l2,v2,rfl,O,V,c0,c1,c2⟩:=(H2.out.below hb).at u;have HC:=Lib.hid (HX.out xs[k] (List.getElem_mem _) ys[k] [.int .i64 k1,.string s1,v1] [.int .i64 k2,.string s2,v2] wr.drew (by rw[U,fE];exact⟨v1,rfl,W.below (dE wr)⟩) (by rw[O,fE];exact⟨v2,rfl,V.below (dE wr)⟩));clear U W O V
    cases H:jd xs[k] ys[k]
    ·rw[H]at HC;have HS:=Lib.hid H;clear H
     go_wp2_with fail
     go_still_tail 8,zo
     change wpList _ _ _ _ _ wr.drew
     go_wp2_with fail
     refine HC.out.mono ?_;rintro e w' ⟨rfl,A⟩
     go_wp2_with fail
     go_ret
     exact cK rfl (Sz Y u HS.out).symm (cV hb (Below.RD A))
    ·rw[H]at HC;have HS:=Lib.hid H;clear H
     go_wp2_with fail
     go_still_tail 8,zo
     change wpList _ _ _ _ _ wr.drew
     go_wp2_with fail
     refine HC.out.mono ?_;rintro e w' ⟨rfl,A⟩
     go_wp2_with fail
     go_roundw
     case rel=>exact⟨k+1,zd,rfl,by go_num,cV hb (Below.RD A),λj h h' h''=>by
      by_cases e:j=k
      ·subst e;exact HS.out
      ·exact HP.out j zd h' h''⟩
     case measure=>simp[intOf];omega
   ·go_wp2_with fail
    go_ret
    have hk':k=xs.length:=zd
    exact cK rfl (sC.2 ⟨HL.out,λi h h'=>HP.out i zd h h'⟩).symm hb
 ·have hne:(((xs.length:Nat):Int) !=((ys.length:Nat):Int))=true:=ahy
  clear h1 h2 hx;rw[Oc hl];clear hl
  go_enter func72,ntmps72
  go_wp2_with fail
  go_ret
  exact⟨rfl,Below.refl _ _⟩
theorem DD(x:Ex):Aj x:=by
 induction x using Ex.ind with
 |h k s l ih=>
  intro y cx cy w A u;obtain⟨V,s',U⟩:=y;rw[fE]at A u;obtain⟨vx,rfl,A⟩:=A;obtain⟨vy,rfl,u⟩:=u;rw[jd];have HB:∀o o',Below w.heap.size w ((w.alloc o).alloc o'):=λo o'=>((Below.refl _ _).alloc (aen _) o).alloc zk o'
  cases Y:k==V
  ·clear ih A u;rw[afL,afL];have q:=Lib.hid HB;clear HB
   go_enter func42,ntmps42
   go_wp2_with fail
   go_ret
   exact cK rfl rfl (q.out _ _)
  ·cases W:s.toList==s'.toList
   ·clear ih A u;rw[Bool.and_false,afL];have q:=Lib.hid HB;clear HB
    go_enter func42,ntmps42
    go_wp2_with fail
    go_ret
    exact cK rfl rfl (q.out _ _)
   ·rw[Bool.and_true,Bool.true_and];have HC:=Lib.hid (λw'(O:Below w.heap.size w w')=>DF l ih U vx vy w' (A.below O) (u.below O));have q:=Lib.hid HB;clear ih A u HB
    go_enter func42,ntmps42
    go_wp2_with fail
    refine(HC.out _ (q.out _ _)).mono ?_;rintro e w' ⟨rfl,H⟩
    go_wp2_with fail
    go_ret
    exact cK rfl rfl (cV (q.out _ _) H)
section
open Go.RowKit
end
section
open Go.RowKit
end
section
open Go.RowKit
end
def aaL(f:FuncId)(cap:IR)(q:qS->Bool)(w:World):Prop:=∀(x:qS)(k:Int)(s:ByteArray)(l:IO)(v:Value)(W:World),Below w.heap.size w W->x.ok->x.expr=.mk k s l->kI W l v ->
 Calls prog f (.agg #[.string x.bP,.string x.to,.bool x.path,.string x.label,.string x.name,.int .i64 k,.string s,v]::cap).toArray W (Ha W (.bool (q x)))
def aaJ(f:FuncId)(cap:IR)(q:Jy->Bool)(w:World):Prop:=∀(x:Jy)(W:World),Below w.heap.size w W->x.ok ->
 Calls prog f (.agg #[.int .i64 x.op,.int .i64 x.left.kind,.string x.left.name,.string x.left.key,.int .i64 x.left.val.kind,.int .i64 x.left.val.num,.string x.left.val.text,.int .i64 x.right.kind,.string x.right.name,.string x.right.key,.int .i64 x.right.val.kind,.int .i64 x.right.val.num,.string x.right.val.text]::cap).toArray W (Ha W (.bool (q x)))
def aaK(f:FuncId)(cap:IR)(q:zJ->Bool)(w:World):Prop:=∀(x:zJ)(W:World),Below w.heap.size w W->x.ok ->
 Calls prog f (.agg #[.int .i64 x.kind,.string x.name,.string x.key,.int .i64 x.val.kind,.int .i64 x.val.num,.string x.val.text]::cap).toArray W (Ha W (.bool (q x)))
section
variable {P:Program}
theorem dT{s:AS}{k i j:Nat}{ob:aa}{row:C5}(T':TypeId)(U:Nat)(hz':0<U)(hk:s.o[k]?=some (some ob))(hz:0<ob.z)(hr:ob.rows[i]?=some row)(hj:row[j]?=some (.v (.slice none 0 0))) :
  Ee s (AS.mk s.t ((s.o++[some (aa.mk T' U true [])]).set k (some {ob with rows:=ob.rows.set i (row.set j (.vec s.o.length 0))})) s.y):=by
 intro f D nu a w hs
 have hv:∀b,dX (Value.slice none 0 0)=some b->w.heap.size<=b:=λb e=>by cases e
 have hp:=iR (nu:=nu) (o:=s.o) (ob:=⟨T',U,true,[]⟩) (Below.refl w.heap.size w) hv;have hro:=ov (ob:=⟨T',U,true,[]⟩) hs.ro (Below.refl _ _) hv (.inl ⟨rfl,rfl,rfl⟩);have hlt:=(aeu.1 hk).1
 have hk':(s.o++[some (⟨T',U,true,[]⟩:aa)])[k]?=some (some ob):=by rw[List.getElem?_append_left hlt];exact hk
 have hh:ob.hl=({ob with rows:=ob.rows.set i (row.set j (.vec s.o.length 0))}:aa).hl:=by simp[aa.hl]
 obtain⟨g,cur,u⟩:∃g cur,B1 D (iD nu s.o.length (.slice none 0 0)) (s.o++[some ⟨T',U,true,[]⟩]) w k ob g cur:=by
  rcases hro.obj k ob hk' with⟨_,e,_⟩|h|⟨g,es,cl,Y⟩
  ·rw[e]at hr;simp at hr
  ·exact h
  ·have:=Y.z;omega
 have Y:=ko (nu:=iD nu s.o.length (.slice none 0 0)) (o:=s.o++[some ⟨T',U,true,[]⟩]) (w:=w) (w':=w) (ob':={ob with rows:=ob.rows.set i (row.set j (.vec s.o.length 0))}) hk' hh.symm u.b7 rfl rfl rfl rfl (λ_ _=>rfl);refine⟨iD nu s.o.length (.slice none 0 0),hp.trans Y,rfl,?_,(hs.tm.mono hp (λ_ _ h=>h)).mono Y (λ_ _ h=>h),hs.mb⟩;have hil:=(aeu.1 hr).1;have hjl:=(aeu.1 hj).1
 have key:∀(q A:Nat)r c,(ob.rows.set i (row.set j (.vec s.o.length 0)))[q]?=some r->r[A]?=some c->∃r0 c0,ob.rows[q]?=some r0∧r0[A]?=some c0∧(c=c0∨(c=.vec s.o.length 0∧c0=.v (.slice none 0 0))):=by
  intro q A r c V O
  by_cases hi:i=q
  ·subst hi;rw[aeG hil]at V;cases V
   by_cases hj':j=A
   ·subst hj';rw[aeG hjl]at O;cases O;exact⟨row,_,hr,hj,.inr ⟨rfl,rfl⟩⟩
   ·rw[aeH hj']at O;exact⟨row,c,hr,O,.inl rfl⟩
  ·rw[aeH hi]at V;exact⟨r,c,V,O,.inl rfl⟩
 refine sb hro hk' hh.symm u.b7 Y (λ_ _=>rfl) (cur:=cur) ⟨u.e9,u.oR,λW=>?_,λW=>?_,u.z,λq r H=>?_,λq A r c x V O h3=>?_,λq A r c x V O h3=>?_⟩
 ·obtain⟨q1,q2,q3⟩:=u.box W;exact⟨q1,by simpa using q2,q3⟩
 ·obtain⟨cap,q1,q2,q3,q4⟩:=u.vec W;exact⟨cap,by simpa using q1,by simpa using q2,q3,q4⟩
 ·by_cases hi:i=q
  ·subst hi;rw[aeG hil]at H;cases H;rw[List.length_set];exact u.row i row hr
  ·rw[aeH hi]at H;exact u.row q r H
 ·obtain⟨r0,c0,k1,k2,e⟩:=key q A r c V O;have h0:=u.cell q A r0 c0 x k1 k2 h3
  rcases e with rfl|⟨rfl,rfl⟩
  ·exact h0.mono Y (λ_ _ h=>h)
  ·obtain rfl:=h0.di
   have:=RA.vec (D:=D) (nu:=iD nu s.o.length (.slice none 0 0)) (o:=(s.o++[some (⟨T',U,true,[]⟩:aa)])) (w:=w) s.o.length 0 ⟨_,List.getElem?_concat_length,λx hx=>aex _⟩ (by rw[bW];rfl)
   rw[bW]at this;exact this.mono Y (λ_ _ h=>h)
 ·obtain⟨r0,c0,k1,k2,_⟩:=key q A r c V O;exact u.one q A r0 c0 x k1 k2 h3
end
def ad8(l:B0):List C5:=l.map (λs=>[.v (.string s)])
structure jX where
 d:Tmp
 k:Nat
 e:TypeId
 z:Nat
 n:Nat
 zc:C5
 bx:Bool:=false
abbrev UV:=List jX
def jX.ob(m:jX):aa:=⟨m.e,m.z, !m.bx,List.replicate m.n m.zc⟩
def jX.av(m:jX)(id:Nat):AV:=if m.bx then .ptr id 0 m.z 0 0 else .vec id m.n
def jX.val(m:jX)(b cap:Nat):Value:=if m.bx then .pointer (some ⟨b,0,none⟩)else .slice (some ⟨b,0,none⟩) m.n cap
theorem jX.aaD(m:jX)(b cap:Nat):dX (m.val b cap)=some b:=by unfold jX.val;split<;>rfl
theorem jX.vw(m:jX)(b cap:Nat):cW (m.val b cap)=some b:=by unfold jX.val;split<;>rfl
def DY(n0:Nat)(m:jX)(v:Value)(w:World):Prop:=∃b cap cur,v=m.val b cap∧n0<=b∧w.heap[b]?=some (.cells cur m.e (0,0))∧m.n<=cap∧cap<=maxLen∧cur.size=cap*m.z∧0<m.z∧m.zc.length=m.z∧(m.bx=true->m.n=1∧cap=1) ∧
 ∀(i j:Nat)c x,i<m.n->m.zc[j]?=some c->cur[i*m.z+j]?=some x->c=.v x∧x.oneCell'=true
theorem DY.below{n0:Nat}{m:jX}{v:Value}{w w':World}(u:Below w.heap.size w w')(h:DY n0 m v w):DY n0 m v w':=by
 obtain⟨b,cap,cur,O,H,q,A⟩:=h;exact⟨b,cap,cur,O,H,(u.block b (Array.getElem?_eq_some_iff.1 q).1).trans q,A⟩
section
variable {D:Nat->Prop} {nu:EQ} {o:AC} {w:World} {P:Program}
def Nz(nu:EQ)(N:Nat)(h:Nat->Value):EQ:=λid len=>if id<N then nu id len else h (id-N)
theorem kT{N:Nat}{h:Nat->Value}{id len:Nat}(hl:id<N):Nz nu N h id len=nu id len:=by grind[Nz]
theorem kS{N:Nat}{h:Nat->Value}{i len:Nat}:Nz nu N h (N+i) len=h i:=by rw[Nz,if_neg zd,Nat.add_sub_cancel_left]
theorem OC{w0:World}(u:RO D nu o w0)(O:Below w0.heap.size w0 w)(ms:UV)(h:Nat->Value)(hm:∀i m,ms[i]?=some m->DY w0.heap.size m (h i) w)
  (hne:∀i j,i<ms.length->j<ms.length->i≠j->∀b,cW (h i)=some b->cW (h j)≠some b) :
  cf nu o w0 (Nz nu o.length h) (o++ms.map (λm=>some m.ob)) w∧RO D (Nz nu o.length h) (o++ms.map (λm=>some m.ob)) w∧∀i m,ms[i]?=some m->RA D (Nz nu o.length h) (o++ms.map (λm=>some m.ob)) w (m.av (o.length+i)) (h i):=by
 have nZ:∀id,id<o.length->(o++ms.map (λm=>some m.ob))[id]?=o[id]? :=λid hl=>List.getElem?_append_left hl
 have new:∀id ob,o.length<=id->(o++ms.map (λm=>some m.ob))[id]?=some (some ob)->∃i m,id=o.length+i∧ms[i]?=some m∧ob=m.ob:=λid ob hl hh=>by
  grind
 have e9:∀i m,ms[i]?=some m->∃b,w0.heap.size<=b∧dX (h i)=some b∧cW (h i)=some b:=λi m hi=>by
  obtain⟨b,cap,cur,q,A,_⟩:=hm i m hi;exact⟨b,A,by rw[q];exact m.aaD b cap,by rw[q];exact m.vw b cap⟩
 have hmo:cf nu o w0 (Nz nu o.length h) (o++ms.map (λm=>some m.ob)) w:=by
  refine⟨O.os,O.tape,O.output,O.size,λid len hh=>⟨?_,kT (j8 hh)⟩,λb hlt hno=>⟨O.block b hlt,?_⟩⟩
  ·obtain⟨x,q,A⟩:=hh;exact⟨x,by grind,A⟩
  ·rintro⟨id,ob,q,A⟩
   rcases aes id o.length with hl|hl
   ·rw[nZ id hl]at q;rw[kT hl]at A;exact hno ⟨id,ob,q,A⟩
   ·obtain⟨i,m,rfl,hi,rfl⟩:=new id ob hl q;rw[kS]at A
    grind
 have row:∀i m,ms[i]?=some m->∃g cur,B1 D (Nz nu o.length h) (o++ms.map (λm=>some m.ob)) w (o.length+i) m.ob g cur:=λi m hi=>by
  obtain⟨b,cap,cur,q,A,W,h4,h5,h6,h7,h8,h10,h9⟩:=hm i m hi
  have inr:∀(V:Nat)r,(List.replicate m.n m.zc)[V]?=some r->V<m.n∧r=m.zc:=λV r U=>by
   grind
  refine⟨b,cur,W,u.up b A,λe=>?_,λe=>⟨cap,?_,?_,h5,h6⟩,h7,λV r U=>?_,λV j r c x q1 q2 q3=>?_,λV j r c x q1 q2 q3=>?_⟩
  ·have O:m.bx=true:=by grind[jX.ob]
   obtain⟨k1,k2⟩:=h10 O;refine⟨by rw[kS,q,jX.val,if_pos O],by grind[jX.ob],?_⟩;rw[h6,k2,Nat.one_mul];rfl
  ·have O:m.bx=false:=by grind[jX.ob]
   rw[kS,q,jX.val,O];simp[jX.ob]
  ·grind[jX.ob]
  ·obtain⟨_,rfl⟩:=inr V r U;exact h8
  ·obtain⟨hl,rfl⟩:=inr V r q1;obtain⟨rfl,_⟩:=h9 V j c x hl q2 q3;exact .v _
  ·obtain⟨hl,rfl⟩:=inr V r q1;exact(h9 V j c x hl q2 q3).2
 refine⟨hmo,⟨λid ob ho=>?_,λb hlt=>u.up b (Nat.le_trans O.size hlt),λid H ob1 ob2 b q A hd W h4=>?_,u.gl.mono hmo (λ_ _ h=>h)⟩,λi m hi=>?_⟩
 ·rcases aes id o.length with hl|hl
  ·rw[nZ id hl]at ho
   rcases u.obj id ob ho with⟨e1,e2,e3⟩|⟨g,cur,U⟩|⟨g,es,cl,hmp⟩
   ·grind[kT]
   ·refine .inr (.inl ⟨g,cur,(O.block g (u.bL ⟨id,ob,ho,U.b7⟩)).trans U.e9,U.oR,λe=>?_,λe=>?_,U.z,U.row,λi j row c x q A W=>(U.cell i j row c x q A W).mono hmo (λ_ _ h=>h),U.one⟩)
    ·rw[kT hl];exact U.box e
    ·rw[kT hl];exact U.vec e
   ·exact .inr (.inr ⟨g,es,cl,hmp.tr (O.block g (u.bL ⟨id,ob,ho,hmp.b7⟩)) (λh=>h) (kT hl) (λi j row c x _ _ U=>U.mono hmo (λ_ _ h=>h))⟩)
  grind
 ·rcases aes id o.length with l1|l1
  ·rw[nZ id l1]at q;rw[kT l1]at W
   rcases aes H o.length with Y|Y
   ·rw[nZ H Y]at A;rw[kT Y]at h4;exact u.sep id H ob1 ob2 b q A hd W h4
   ·obtain⟨i,m,rfl,hi,rfl⟩:=new H ob2 Y A;rw[kS]at h4;obtain⟨b',q1,q2,_⟩:=e9 i m hi;rw[q2]at h4;cases h4
    have:=u.bL ⟨id,ob1,q,W⟩
    omega
  ·obtain⟨i,m,rfl,hi,rfl⟩:=new id ob1 l1 q;rw[kS]at W;obtain⟨b',q1,q2,q3⟩:=e9 i m hi;rw[q2]at W;cases W
   rcases aes H o.length with Y|Y
   ·rw[nZ H Y]at A;rw[kT Y]at h4
    have:=u.bL ⟨H,ob2,A,h4⟩
    omega
   ·obtain⟨j,m',rfl,hj,rfl⟩:=new H ob2 Y A;rw[kS]at h4
    grind
 ·obtain⟨b,cap,cur,q,_⟩:=hm i m hi
  have hg:(o++ms.map (λm=>some m.ob))[o.length+i]?=some (some m.ob):=by grind
  cases O:m.bx
  ·have:=RA.vec (D:=D) (nu:=Nz nu o.length h) (o:=o++ms.map (λm=>some m.ob)) (w:=w) (o.length+i) m.n ⟨some m.ob,hg,λx hx=>by grind[aa.hl,jX.ob]⟩ (by rw[kS,q,jX.val,O];rfl)
   grind[kS,jX.av]
  ·have:=RA.ptr (D:=D) (nu:=Nz nu o.length h) (o:=o++ms.map (λm=>some m.ob)) (w:=w) (o.length+i) 0 m.z 0 0 b ⟨some m.ob,hg,λx hx=>Nat.zero_le _⟩ (by rw[kS,q];exact m.vw b cap)
   grind[jX.av,jX.val]
def mkT:C5->Nat->UV->C5
 |t,_,[]=>t
 |t,N,m::l=>mkT (t.set m.d (m.av N)) (N+1) l
def Dg(s:AS)(ms:UV):AS:=⟨mkT s.t s.o.length ms,s.o++ms.map (λm=>some m.ob),s.y⟩
def AV.YN:AV->AV
 | .v x=> .v x
 | .ptr a b c d e=> .ptr a b c d e
 | .vec a b=> .vec a b
 | .agg cs=>if AV.flat (.agg cs)then .agg cs else .undef
 | .jw _ (.v x)=> .v x
 |_=> .undef
theorem RA.YN{D':Nat->Prop}{nu':EQ}{o':AC}{w':World}(A:∀id len,fg o id len->fg o' id len∧nu' id len=nu id len){c:AV}{x:Value}(h:RA D nu o w c x):RA D' nu' o' w' c.YN x:=by
 cases h with
 |v=>exact .v _
 |ptr id len z row off b q u=>exact .ptr id len z row off b (A _ _ q).1 (by grind)
 |vec id len q u=>
  rw[<-(A _ _ q).2]at u⊢;exact .vec id len (A _ _ q).1 u
 |agg cs xs q u H=>
  simp only[AV.YN]
  split
  ·rename_i hf;exact(RA.agg cs xs q u H:RA D nu o w _ _).flat hf
  ·exact .undef _
 |jw p a x S U q O u H=>
  cases a with
  |v y=>cases H;exact .v _
  |_=>exact .undef _
 |_=>exact .undef _
def OB:ac->C5->C5
 | [],t=>t
 |d::ds,t=>OB ds (t.set d (t.getD d .undef).YN)
def Cc(P:Program)(T:TypeId)(n c:AV):Option (Prop×TypeId×Nat×Nat×C5):=
 match P.underlying T,n,c with
 |some (.slice e),.v (.int _ l),.v (.int _ m)=>match jP P T,de P e with
  |some (_,z,bytes),some zr=>some (0<=l∧l<=m∧m.toNat*bytes<=140737488355328∧m.toNat<=140737488355328,e,z,l.toNat,zr)
  |_,_=>none
 |_,_,_=>none
theorem Al{T:TypeId}{n c:AV}{x y:Value}(hx:RA D nu o w n x)(hy:RA D nu o w c y){p:Prop}{e:TypeId}{z l:Nat}{zr:C5}(hl:Cc P T n c=some (p,e,z,l,zr))(hp:p)(d:Tmp)(k:Nat) :
  ∃v w',(Instr.makeSlice T x y).run P w=.ok v w'∧Below w.heap.size w w'∧DY w.heap.size ⟨d,k,e,z,l,zr,false⟩ v w':=by
 unfold Cc at hl
 split at hl
 ·rename_i e0 kl Y kc m hu
  split at hl
  ·rename_i e2 z0 bytes zr0 ht hz;simp only[aez,aeA]at hl;obtain⟨rfl,rfl,rfl,rfl,rfl⟩:=hl;obtain⟨h1,h2,h3,h4⟩:=hp;obtain⟨H,i,zv,hi,A,hzs,W,hsize,hbytes⟩:=gx ht;rw[hu]at H;cases H;obtain⟨i',zv',U,hzv',rfl,hone⟩:=iC hz;rw[hi]at U;cases U;rw[A]at hzv';cases hzv';cases hx;cases hy
   have hr:=run_make (P:=P) w T e0 i zv hu hi A kl kc Y m h1 h2 (by
    grind) zd
   rw[hr];refine⟨_,_,rfl,(Below.refl _ _).alloc (aen _) _,w.heap.size,m.toNat,_,rfl,aen _,heap_alloc_new w _,by grind,by grind[maxLen],by grind[size_madeCells],W,by grind,λe=>(by cases e),λi1 j c x q0 q V=>?_⟩
   replace q0:i1<Y.toNat:=q0
   replace q:(zv.cells.toList.map AV.v)[j]?=some c:=q
   rw[List.getElem?_map]at q
   cases hq:zv.cells.toList[j]? with
   |none=>grind
   |some u=>
    rw[hq]at q;cases q
    have hjl:j<zv.cells.size:=by grind
    have O:i1*z0+j<m.toNat*i.size:=by rw[hsize];exact rO zd zd
    have hmod:(i1*z0+j) % zv.cells.size=j:=by grind[s6]
    replace V:(madeCells zv.cells (m.toNat*i.size))[i1*z0+j]?=some x:=V
    simp only[madeCells,Array.getElem?_map,Array.getElem?_range,if_pos O,Option.map_some,aez]at V
    grind
  ·cases hl
 ·cases hl
def B5(P:Program)(T:TypeId):Option (Prop×TypeId×Nat×Nat×C5):=
 match de P T with
 |some zr=>if 0<zr.length then some (True,T,zr.length,1,zr)else none
 |none=>none
theorem Ld{T:TypeId}{p:Prop}{e:TypeId}{z l:Nat}{zr:C5}(hl:B5 P T=some (p,e,z,l,zr))(d:Tmp)(k:Nat) :
  ∃v w',(Instr.alloc T true (.tuple #[])).run P w=.ok v w'∧Below w.heap.size w w'∧DY w.heap.size ⟨d,k,e,z,l,zr,true⟩ v w':=by
 unfold B5 at hl
 split at hl
 ·rename_i A hz
  split at hl
  ·rename_i u;simp only[aez,aeA]at hl;obtain⟨-,rfl,rfl,rfl,rfl⟩:=hl;obtain⟨i,zv,hi,H,W,U⟩:=iC hz
   have O:(zeroValue T).run P w=.ok zv w:=by simp[zeroValue,typeInfo,hi,H]
   have q:(Instr.alloc T true (.tuple #[])).run P w=.ok (.pointer (some ⟨w.heap.size,0,none⟩)) (w.alloc (.cells zv.cells T)):=by
    simp[Instr.alloc,newVar,newRow,O]
   rw[q]
   have V:zv.cells.size=A.length:=by rw[W];simp
   refine⟨_,_,rfl,(Below.refl _ _).alloc (aen _) _,w.heap.size,1,zv.cells,rfl,aen _,heap_alloc_new w _,aen _,by grind[maxLen],by grind,u,rfl,λ_=>⟨rfl,rfl⟩,λi1 j c x q0 q1 Y=>?_⟩
   grind
  ·cases hl
 ·cases hl
def Se(g:Option (Nat×Bool))(d:Option Tmp)(N:Nat)(x:Option (Prop×TypeId×Nat×Nat×C5))(K:Tmp->TypeId->Nat->Nat->C5->Prop):Prop:=match g,d,x with
 |none,some d,some (p,e,z,n,zc)=>(p∧d<N)∧K d e z n zc
 |_,_,_=>False
theorem NM(d N:Nat)(p:Prop)(e:TypeId)(z n:Nat)(zc:C5)(K:Tmp->TypeId->Nat->Nat->C5->Prop):Se none (some d) N (some (p,e,z,n,zc)) K=((p∧d<N)∧K d e z n zc):=rfl
@[congr] theorem Xx{g:Option (Nat×Bool)}{d:Option Tmp}{N q:Nat}{x x':Option (Prop×TypeId×Nat×Nat×C5)}{K:Tmp->TypeId->Nat->Nat->C5->Prop}(h:N=q)(k:x=x'):Se g d N x K=Se g d q x' K:=by rw[h,k]
def iv(P:Program)(all tail:GE):GE->Nat->AS->UV->ac->(AS->Prop)->Prop
 | [],_,s,ms,ds,Q=>fY P all tail (Dg ⟨OB ds s.t,s.o,s.y⟩ ms) Q
 |oo::rest,k,s,ms,ds,Q=>match oo.op with
  | .makeSlice T n c=>Se oo.guard oo.dst s.t.length (Cc P T (s.ev n) (s.ev c)) (λd e z l zc=>iv P all tail rest (k+1) (s.put (some d) .undef s.o) (ms++[⟨d,k,e,z,l,zc,false⟩]) ds Q)
  | .alloc T=>Se oo.guard oo.dst s.t.length (B5 P T) (λd e z l zc=>iv P all tail rest (k+1) (s.put (some d) .undef s.o) (ms++[⟨d,k,e,z,l,zc,true⟩]) ds Q)
  |_=>match oo.guard with
   |none=>dN P oo.op s (λr=>iv P all tail rest (k+1) (s.put oo.dst r s.o) ms (oo.dst.toList++ds) Q)
   |some (j,want)=>Ae (nN all s j) want (dN P oo.op s (λr=>iv P all tail rest (k+1) (s.put oo.dst r s.o) ms (oo.dst.toList++ds) Q)) (iv P all tail rest (k+1) (s.put oo.dst (.v Go.undef) s.o) ms (oo.dst.toList++ds) Q)
structure ad1(l:GE)(s:AS)(a:Act)(k:Nat)(sk:AS)(rs:List (AV×Option jX))(A:(Nat->Value)->Act)(ms:UV)(ds:ac):Prop extends NQ l s a k sk (rs.map Prod.fst) A where
 row:∀m,m∈ms->m.k<k∧rs[m.k]?=some (.undef,some m)∧(∃oi,l[m.k]?=some oi∧oi.dst=some m.d)∧∀x,(A x).tmps[m.d]?=some (x m.k)
 nod:(ms.map jX.k).Nodup
 aei:∀(i:Nat)r m,rs[i]?=some (r,some m)->r=.undef
 dst:∀(i:Nat)(oi:Oper)d r,i<k->l[i]?=some oi->oi.dst=some d->rs[i]?=some (r,none)->d∈ds
def sw:AC->C5->Option (Prop×C5×AC)
 |o,[]=>some (True,[],o)
 |o,.vec id len::l=>match o[id]? with
  |some (some ob)=>match sw (o.set id none) l with
   |some (p,m,o')=>some ((ob.fe=true∧ob.rows.length=len∧bD 0 ob.rows=true)∧p,.aB ob.z ob.rows len::m,o')
   |none=>none
  |_=>none
 |o,a::l=>match sw o l with
  |some (p,m,o')=>some (a.wf 0=true∧p,a::m,o')
  |none=>none
theorem uP:∀(args:C5){o:AC}{p:Prop}{args':C5}{o':AC},sw o args=some (p,args',o')->p->RO D nu o w->cf nu o w nu o' w∧RO D nu o' w∧args.length=args'.length ∧
  ∀(i:Nat)a b x,args[i]?=some a->args'[i]?=some b->RA D nu o w a x->RA D nu o' w b x
 | [],o,p,args',o',u,hp,h=>by
  simp only[sw,aez,aeA]at u;obtain⟨rfl,rfl,rfl⟩:=u;exact⟨.refl _ _ _,h,rfl,λi a b x h=>by simp at h⟩
 |a::l,o,p,args',o',u,hp,h=>by
  have plain:(match sw o l with
   |some (p,m,o')=>some (a.wf 0=true∧p,a::m,o')
   |none=>none)=some (p,args',o')->cf nu o w nu o' w∧RO D nu o' w∧(a::l).length=args'.length∧∀(i:Nat)c b x,(a::l)[i]?=some c->args'[i]?=some b->RA D nu o w c x->RA D nu o' w b x:=λu=>by
   cases O:sw o l with
   |none=>rw[O]at u;cases u
   |some y=>
    obtain⟨q,m,o2⟩:=y;rw[O]at u;simp only[aez,aeA]at u;obtain⟨rfl,rfl,rfl⟩:=u;obtain⟨U,k2,Y,W⟩:=uP l O hp.2 h;refine⟨U,k2,by simp[Y],λi c b x H A V=>?_⟩
    cases i with
    |zero=>simp at H A;subst H;subst A;exact V.mono U (λ_ _ h=>h)
    |succ i=>exact W i c b x (by simpa using H) (by simpa using A) V
  cases a with
  |vec id len=>
   simp only[sw]at u
   split at u
   ·rename_i ob ho
    cases O:sw (o.set id none) l with
    |none=>rw[O]at u;cases u
    |some y=>
     obtain⟨q,m,o2⟩:=y;rw[O]at u;simp only[aez,aeA]at u;obtain⟨rfl,rfl,rfl⟩:=u;obtain⟨⟨hv,rfl,hw⟩,hq⟩:=hp;have hm:=fh (nu:=nu) (o:=o) (w:=w) id;obtain⟨U,k2,Y,W⟩:=uP l O hq (nU h id);refine⟨hm.trans U,k2,by simp[Y],λi c b x H A V=>?_⟩
     cases i with
     |zero=>
      simp at H A;subst H;subst A;cases V;exact(mo h ho hv).mono U (λ_ _ h=>h)
     |succ i=>exact W i c b x (by simpa using H) (by simpa using A) (V.mono hm (λ_ _ h=>h))
   ·cases u
  |_=>exact plain u
theorem ai.Wl{f:FuncId}{args args':C5}{o':AC}{r:AV}{p:Prop}{K:AV->AC->Prop}(h:aj P f args' r)(hz:sw o args=some (p,args',o'))(hp:p)(k:K r o'):ai P f args o K:=by
 refine .inr (.inr ⟨h.2.1,λD nu w vargs u q=>?_⟩);obtain⟨Y,A,W,V⟩:=uP args hz hp u
 refine(rD h A ⟨by rw[<-W];exact q.len,λi c x U O=>?_⟩).mono ?_
 ·have hi:i<args.length:=by grind
  exact V i _ c x (aeC hi) U (q.at' i _ x (aeC hi) O)
 ·rintro e w' ⟨v,rfl,H,hr⟩;exact⟨v,nu,o',r,rfl,Y.trans (aG H),A.below H,hr,k⟩
theorem gy{s:AS}(i id:Nat){len:Nat}{ob:aa}(hi:s.t[i]?=some (.vec id len))(V:s.o[id]?=some (some ob))(O:ob.fe=true)(hl:ob.rows.length=len):Ee s (AS.mk (s.t.set i (.aB ob.z ob.rows len)) (s.o.set id none) s.y):=by
 intro f D nu a w hs;have A:=fh (nu:=nu) (o:=s.o) (w:=w) id;refine⟨nu,A,rfl,nU hs.ro id,⟨by simpa using hs.tm.len,λj c x u H=>?_⟩,hs.mb⟩
 by_cases q:i=j
 ·subst q;rw[List.getElem?_set_self (aeu.1 hi).1]at u;cases u;have U:=hs.tm.at' i _ x hi H;subst hl;cases U;exact mo hs.ro V O
 ·rw[List.getElem?_set_ne q]at u;exact(hs.tm.at' j c x u H).mono A (λ_ _ h=>h)
theorem mn{n0 i:Nat}{ops:Array Oper}{d:Bool}{s:AS}{Q:bd->AS->Prop}(h:cD P n0 (.region i ops d) s Q):cD P n0 (.region i ops d) s Q:=h
theorem Lk{all tail rest:GE}{d:Tmp}{T ty:TypeId}{pos:String}{aft:Array Edge}{k:Nat}{s:AS}{ms:UV}{ds:ac}{Q:AS->Prop}(h:Se none (some d) s.t.length (B5 P T) (λd e z l zc=>iv P all tail rest (k+1) (s.put (some d) .undef s.o) (ms++[⟨d,k,e,z,l,zc,true⟩]) ds Q)):iv P all tail (⟨some d,.alloc T,ty,pos,aft,none⟩ ::rest) k s ms ds Q:=h
theorem Ll{all tail rest:GE}{d:Tmp}{T ty:TypeId}{n c:Operand}{pos:String}{aft:Array Edge}{k:Nat}{s:AS}{ms:UV}{ds:ac}{Q:AS->Prop}(h:Se none (some d) s.t.length (Cc P T (s.ev n) (s.ev c)) (λd e z l zc=>iv P all tail rest (k+1) (s.put (some d) .undef s.o) (ms++[⟨d,k,e,z,l,zc,false⟩]) ds Q)):iv P all tail (⟨some d,.makeSlice T n c,ty,pos,aft,none⟩ ::rest) k s ms ds Q:=h
theorem Hk{all tail:GE}{k:Nat}{s:AS}{ms:UV}{ds:ac}{Q:AS->Prop}(h:fY P all tail (Dg ⟨OB ds s.t,s.o,s.y⟩ ms) Q):iv P all tail [] k s ms ds Q:=h
instance {all tail:GE}{k:Nat}{s:AS}{ms:UV}{ds:ac}{Q:AS->Prop}:bG (iv P all tail [] k s ms ds Q) (fY P all tail (Dg ⟨OB ds s.t,s.o,s.y⟩ ms) Q):=⟨Hk⟩
instance {all tail rest:GE}{d:Tmp}{T ty:TypeId}{n c:Operand}{pos:String}{aft:Array Edge}{k:Nat}{s:AS}{ms:UV}{ds:ac}{Q:AS->Prop}:bG (iv P all tail (⟨some d,.makeSlice T n c,ty,pos,aft,none⟩ ::rest) k s ms ds Q)
 (Se none (some d) s.t.length (Cc P T (s.ev n) (s.ev c)) (λd e z l zc=>iv P all tail rest (k+1) (s.put (some d) .undef s.o) (ms++[⟨d,k,e,z,l,zc,false⟩]) ds Q)):=⟨Ll⟩
instance {all tail rest:GE}{d:Tmp}{T ty:TypeId}{pos:String}{aft:Array Edge}{k:Nat}{s:AS}{ms:UV}{ds:ac}{Q:AS->Prop}:bG (iv P all tail (⟨some d,.alloc T,ty,pos,aft,none⟩ ::rest) k s ms ds Q)
 (Se none (some d) s.t.length (B5 P T) (λd e z l zc=>iv P all tail rest (k+1) (s.put (some d) .undef s.o) (ms++[⟨d,k,e,z,l,zc,true⟩]) ds Q)):=⟨Lk⟩
end
attribute [go_sem] NM B5 jX.av Cc Dg mkT OB AV.YN AV.flat jX.ob Option.toList_some Option.toList_none
section
variable {D:Nat->Prop} {nu:EQ} {o:AC} {w:World} {P:Program}
def bB(o:AC)(a r:AV):Prop:=∀(D:Nat->Prop)(nu:EQ)(w:World)(x:Value),RO D nu o w->RA D nu o w a x->RA D nu [] w r x
def xu(o:AC):C5->C5->Prop
 | [],[]=>True
 |a::l,b::m=>bB o a b∧xu o l m
 |_,_=>False
theorem bB.of{a r:AV}(n:Nat){p:Prop}(A:jF o n a=some (p,r))(H:p):bB o a r:=λ_ _ _ x q u=>(pE q n).1 a x p r A H u
theorem xu.at':∀{l m:C5},xu o l m->l.length=m.length∧∀(i:Nat)a b,l[i]?=some a->m[i]?=some b->bB o a b
 | [],[],_=>⟨rfl,λi a b h=>by simp at h⟩
 |a::l,b::m,h=>by
  obtain⟨H,A⟩:=xu.at' h.2;refine⟨by simp[H],λi x y u q=>?_⟩
  cases i with
  |zero=>simp at u q;subst u;subst q;exact h.1
  |succ i=>exact A i x y (by simpa using u) (by simpa using q)
theorem xu.ras{l m:C5}(h:xu o l m)(q:RO D nu o w){xs:Array Value}(A:gC D nu o w l xs):gC D nu [] w m xs:=by
 obtain⟨H,U⟩:=h.at';refine⟨by rw[<-H];exact A.len,λi c x u O=>?_⟩
 have hi:i<l.length:=by rw[H];exact(aeu.1 u).1
 exact U i _ c (aeC hi) u D nu w x q (A.at' i _ x (aeC hi) O)
def mD(P:Program)(f:FuncId)(args:C5)(r:AV):Prop:=(aU 0 args=true∧r.wf 0=true)∧fP P f=true∧∀D nu w vargs,RO D nu [] w->gC D nu [] w args vargs->Calls P f vargs w (λe w'=>∃v,e=.returned v∧Below w.heap.size w w'∧RA (λb=>w.heap.size<=b) nu [] w' r v)
theorem mD.to1{f:FuncId}{args:C5}{r:AV}(h:mD P f args r):aj P f args r:=by
 refine⟨h.1,h.2.1,λD nu w vargs q A=>(h.2.2 D nu w vargs q A).mono ?_⟩;rintro e w' ⟨v,rfl,u,H⟩;exact⟨v,nu,[],r,rfl,aG u,q.below u,H.wider (λb u=>q.up b u),rfl,rfl⟩
def so(o:AC)(r0 r:AV):Prop:=∀(D:Nat->Prop)(nu:EQ)(w:World)(x:Value),RO D nu o w->RA D nu o w r0 x->RA (owned nu o) nu [] w r x
theorem so.vec{id len:Nat}{ob:aa}(ho:o[id]?=some (some ob))(W:ob.fe=true)(hl:ob.rows.length=len)(Y:∀row,row∈ob.rows->∀c,c∈row->∃x,c=.v x):so o (.vec id len) (.aB ob.z ob.rows len):=λD nu w x A H=>by
 have hx:x=nu id len:=by
  cases H with
  |vec=>rfl
 subst hx;subst hl;have u:∀b,cW (nu id ob.rows.length)=some b->owned nu o b:=λb hb=>⟨id,ob,ho,by rw[aa.hl,W,if_pos rfl];exact JZ hb⟩;have h:=mo A ho W;generalize hq:nu id ob.rows.length=q at h u⊢;generalize ob.rows.length=n at h⊢;generalize ob.rows=rows at h Y⊢
 cases h with
 |b5=>exact .b5 _
 |cp _ a=>exact .cp _ a
 |aB _ _ _ b off cap f k1 k2 k3 k4 k5 k6 k7 k8=>
  refine .aB _ _ _ b off cap f k1 k2 k3 (λO=>⟨(k4 O).1,br _ _,u b rfl⟩) k5 k6 (λi j row c V U=>?_) k8;obtain⟨y,rfl⟩:=Y row (aeQ V) c (aeQ U);rw[(k7 i j row _ V U).di];exact .v y
theorem Be{α:Type}(f:α->C5)(h:∀x,∀c∈f x,∃y,c=.v y)(l:List α):∀row,row∈l.map f->∀c,c∈row->∃y,c=.v y:=λrow q=>by
 obtain⟨x,_,rfl⟩:=List.mem_map.1 q;exact h x
theorem mD.enter{f:FuncId}{fn:Func}{c:Code}{args:C5}{r:AV}(A:P.funcs[f]?=some fn)(W:fn.body=some c)(hc:fP P f=true)(U:bX c=true)(V:P.follows .mixedOrders=true)
  (ha:aU 0 args=true)(hr:r.wf 0=true)(h:cD P 0 c ⟨args++List.replicate (fn.ntmps-args.length) .undef,[],.no⟩ (BQ P fn.results.toList (λY o=>so o Y r))):mD P f args r:=by
 obtain⟨_,h2⟩:=ft.enter (o:=[]) A W hc U V h;refine⟨⟨ha,hr⟩,hc,λD nu w vargs H O=>(h2 D nu w vargs H O).mono ?_⟩;rintro e w' ⟨v,nu',o',Y,rfl,u,hro',hra',hz⟩;refine⟨v,rfl,⟨u.os,u.tape,u.output,u.size,λb W=>(u.keep b W (br _ _)).1⟩,(hz _ _ _ _ hro' hra').tr (n:=0) (λb A=>⟨A.1,br _ _,?_⟩) (λid len hlt=>zd) hr⟩
 rcases aes b w.heap.size with q|q
 ·exact absurd A.2.2 (u.keep b q (br _ _)).2
 ·exact q
open Go.Sort in
theorem QB{α:Type} [Inhabited α]{enc:α->Value}{n e9:Nat}{d:Array α}{os:Array Obj}(u:e9<w.heap.size):(∀b,b<w.heap.size->b≠e9->(grow (putRow enc (Go.Sort.ahead w n) e9 0 d) os).heap[b]?=w.heap[b]?) ∧
  ∀cs T fr,w.heap[e9]?=some (.cells cs T fr)->(grow (putRow enc (Go.Sort.ahead w n) e9 0 d) os).heap[e9]?=some (.cells (putCells enc 0 d cs) T fr):=by
 refine⟨λb A q=>?_,λcs T fr h=>?_⟩
 ·rw[heap_grow_old _ _ (by simpa using A)];simp only[putRow,mapBlock,afT,ae3,if_neg (Ne.symm q)]
 ·rw[heap_grow_old _ _ (by simpa using u)];simp only[putRow,mapBlock,afT,ae3,if_true,h,Option.map_some,onCells]
def adu{α:Type}(enc:α->Value)(l:List α):List C5:=l.map (λa=>[.v (enc a)])
def rl(f:Nat->Nat)(n:Nat):C5->C5->Prop
 | [],[]=>True
 |a::l,c::m=>(c=.undef∨(a=c.ba f∧c.wf n=true))∧rl f n l m
 |_,_=>False
theorem Ed{f:Nat->Nat}{n:Nat}:∀{l m:C5},rl f n l m->l.length=m.length∧∀(i:Nat)c,m[i]?=some c->c=.undef∨(l[i]?=some (c.ba f)∧c.wf n=true)
 | [],[],_=>⟨rfl,λi c h=>by simp at h⟩
 |a::l,b::m,h=>by
  obtain⟨A,u⟩:=Ed h.2;refine⟨by simp[A],λi c q=>?_⟩
  cases i with
  |zero=>
   simp at q;subst q;rcases h.1 with e|⟨e,g⟩
   ·exact .inl e
   ·exact .inr ⟨by simp[e],g⟩
  |succ i=>simpa using u i c (by simpa using q)
theorem xJ{s:AS}{c:Code}{Q:bd->AS->Prop}(ids:Do)(t0:C5)(o0:AC)(hnd:ids.Nodup)(q:ids.map (λi=>s.o[i]?)=o0.map (λx=>some (x.map (aa.ba (sig ids s.o.length)))))
  (hwo:∀(k:Nat)ob,o0[k]?=some (some ob)->bD ids.length ob.rows=true)(ht:rl (sig ids s.o.length) ids.length s.t t0)(hok:bX c=true)(h:cD P 0 c ⟨t0,o0,s.y⟩ Q):G3 P 0 c s Q:=λf m D nu a w hZr hn Y A hmx R hO hR=>by
 obtain⟨ro0,own0,fz0,hdr0,_⟩:=yj ids A.ro hnd q hwo
 have hlen:o0.length=ids.length:=by have:=congrArg List.length q;simpa using this.symm
 generalize sig ids s.o.length=σ at *;have hD:∀b,(D b∧ ¬(b<w.heap.size∧∃id ob,id∉ids∧s.o[id]?=some (some ob)∧dX (nu id ob.hl)=some b))->D b:=λb h=>h.1;have ro1:=ro0.wider hD;obtain⟨t1,t2⟩:=Ed ht
 have hs0:RS f D (λk len=>nu (σ k) len) ⟨t0,o0,s.y⟩ a w:=⟨ro1,⟨by rw[<-t1];exact A.tm.len,λi c x h1 h2=>by
  rcases t2 i c h1 with rfl|⟨e,g⟩
  ·exact .undef x
  ·exact((A.tm.at' i _ x e h2).Gw (f:=σ) (n:=ids.length) fz0 hdr0 c g rfl).wider hD⟩,A.mb⟩
 refine gO hmx m hZr hn c hok _ a w D _ f.Z Q R hO ?_ hs0 h hR

 have hoz:∀b,owned nu s.o b-> ¬f.Z b:=λb u H=>((m.sj Y).1 b H).2 (A.ro.nJ u)
 have m1:=m.step (D':=λb=>D b∧ ¬owned nu s.o b) (nu':=nu) (o':=[]) (Z':=λb=>f.Z b∨owned nu s.o b) (w':=w) Y A.ro
  ⟨rfl,rfl,rfl,aen _,λid len U _=>by simp at U,λb _ _ _=>⟨rfl,br _ _⟩⟩
  (.nil _ _ _ (λb u=>⟨A.ro.up b u,λq=>by have:=A.ro.bL q;omega⟩) (A.ro.gl.keep λb _ O W=>⟨rfl,br _ _,W,O⟩))
  (λc v hr hc=>hr.tr (n:=0) (λb V=>⟨V.1,br _ _,V.2.2,V.2.1⟩) (λid len U=>zd) hc)
  (λb u=> .inl u.1) (λb u=>by by_cases q:owned nu s.o b;exact .inr (.inr q);exact .inl ⟨u,q⟩)
  (λb u=>by
   rcases u with H|q
   ·exact⟨((m.sj Y).1 b H).1,λW=>((m.sj Y).1 b H).2 W.1,.inl H⟩
   ·exact⟨A.ro.bL q,λW=>W.2 q,.inr (.inl q)⟩) (by simpa using hn)
 exact m.step m1 (.nil _ _ _ (λb u=>⟨A.ro.up b u,λq=>by have:=A.ro.bL q;omega⟩) (A.ro.gl.keep λb _ O W=>⟨rfl,br _ _,W,O⟩))
  ⟨rfl,rfl,rfl,aen _,λid len _ hh=>by obtain⟨x,h1,_⟩:=hh;simp at h1,λb _ _ H=>⟨rfl,λq=>H (.inr (own0 b q))⟩⟩ ro1
  (λc v hr hc=>hr.tr (n:=o0.length) (λb V=>⟨V.1,λq=>V.2.2.2 (own0 b q),V.2.2.1⟩) (λid len U hh=>by obtain⟨x,h1,_⟩:=hh;simp at h1) hc)
  (λb u=>by by_cases q:owned nu s.o b;exact .inr (.inr q);exact .inl ⟨u,q⟩) (λb u=> .inl u.1)
  (λb H=>⟨((m.sj Y).1 b H).1,((m.sj Y).1 b H).2,.inl (.inl H)⟩) (Nat.le_trans hn (Nat.zero_le _))
theorem qj{id:Nat}{t:C5}{o:AC}{y:kz}{ops:Array Oper}{d:Bool}{Q:bd->AS->Prop}(ids:Do)(t0:C5)(o0:AC)(A:ids.Nodup)(O:ids.map (λi=>o[i]?)=o0.map (λx=>some (x.map (aa.ba (sig ids o.length)))))
  (q:∀(k:Nat)ob,o0[k]?=some (some ob)->bD ids.length ob.rows=true)(H:rl (sig ids o.length) ids.length t t0)(u:dP ops=true)(h:cD P 0 (.region id ops d) ⟨t0,o0,y⟩ Q):cD P 0 (.region id ops d) ⟨t,o,y⟩ Q:=by
 have:=xJ (P:=P) (s:=⟨t,o,y⟩) (c:= .region id ops d) ids t0 o0 A O q H u h
 cases d
 ·exact .inr this
 ·exact .inr this
end
def aed(q:Lb)(i:Nat):List C5:=((q.conds.drop i).flatMap (λc=>[c.left,c.right])++q.ret).map (λo=>[.agg (OZ o)])
def Zh(l:List (ByteArray×Int)):List C5:=l.map (λp=>[.v (.string p.1),.v (.int .i64 p.2)])
theorem yF(c:Int):aj prog 143 [.v (.int .u8 c)] (.v (.bool (o9 c))):=by
 unfold o9;refine gE func143 ntmps143 results143 ?_
 (refine ae ?_;intro K hK K hK)
 refine cn.part (λh=>?_) (λh=>?_)
 ·(revert K;revert K;exact vT h)
 ·(revert K;revert K;exact vT h)
theorem Q9(c:Int):aj prog 142 [.v (.int .u8 c)] (.v (.bool (ib c))):=by
 have L:=yF c;refine gE func142 ntmps142 results142 ?_
 (refine ae ?_;intro K hK K hK)
 (revert K;revert K;refine aK L ?_;intro K hK K hK)
 refine cn.part (λh=>?_) (λh=>?_)
 ·(revert K;revert K;refine dj h ?_)
  rw[ib,h];rfl
 ·(revert K;revert K;refine dj h ?_;intro K hK K hK)
  refine cn.part (λq=>?_) (λq=>?_)
  ·(revert K;revert K;refine dj (rL h q) ?_;intro K hK K hK)
   refine cn.part (λu=>?_) (λu=>?_)
   ·(revert K;revert K;refine dj (nq h q u) ?_)
    rw[ib,h,q,u];simp
   ·(revert K;revert K;refine dj (nq h q u) ?_)
    rw[ib,h,q,u];simp
  ·(revert K;revert K;refine dj (rL h q) ?_)
   rw[ib,h,q];simp
theorem uc(s:ByteArray)(k:Nat)(h:k<s.size):kr s k=s[k].toNat:=by
 unfold kr;rw[List.getD_eq_getElem?_getD,aeC (by simpa using h)];simp[ByteArray.getElem_eq_getElem_data]
theorem sh(s:ByteArray)(W:s.size<=1000000000000000):aj prog 105 [.v (.string s)] (.v (.bool (fU s))):=by
 refine gE func105 ntmps105 results105 ?_
 (refine ae ?_;intro K hK)
 refine b6 (ι:=Nat) (λi=>[(0,.v (.string s)),(2,.v (.bool false)),(3,.v (.int .i64 i))]) (λ_=>[]) (λi=>s.size-i) (λi=>i<=s.size∧∀j(h:j<s.size),j<i->ib s[j].toNat=true) 0 ⟨zd,λj _ h=>absurd h zd⟩ ?_ ?_
 ·refine ab (bJ ?_) ar ar
  rfl
 ·rintro i ⟨hi,U⟩ K hK;simp only[bP,List.foldl_cons,List.foldl_nil,List.replicate_succ,List.replicate_zero,go_sem]
  (revert K;revert K;refine ae ?_;intro K hK K hK K hK)
  refine cn.part (λh=>?_) (λh=>?_)
  ·have A:i<s.size:=by replace h:=cq h;omega
   have eW:=ag (k:=i) zd;have S:=Q9 (kr s i)
   ((iterate 3 revert K);refine ae ?_;iterate 5 intro K hK)
   ((iterate 5 revert K);refine aK S ?_;intro K hK K hK K hK)
   refine cn.part (λO=>?_) (λO=>?_)
   ·((iterate 3 revert K);refine ak eW ?_)
    exact aw.mk (i+1) ⟨zd,λj H u=>(by
     rcases aes j i with q|q
     ·exact U j H q
     ·obtain rfl:j=i:=zd
      rw[<-uc s j H];exact O)⟩ zd (by exact ab ar ar ar)
   ·((iterate 3 revert K);refine ak O ?_)
    have e:fU s=false:=by
     rw[<-Bool.not_eq_true,fU,Bool.and_eq_true,Bool.and_eq_true,gr];intro hh
     have:=hh.1.1 i A
     rw[<-uc s i A,O]at this;cases this
    rw[e]
  ·have Y:i=s.size:=by replace h:=cq h;omega
   have ea:s.data.toList.all (λb=>ib b.toNat)=true:=(gr _ _).2 (λj H=>U j H zd)
   ((iterate 3 revert K);refine ae ?_;intro K hK K hK)
   refine cn.part (λu=>?_) (λu=>?_)
   ·(revert K;revert K;refine ak u ?_)
    have V:1<=s.size:=by replace u:=cq u;omega
    rw[fU,ea,decide_eq_true V];simp;omega
   ·(revert K;revert K;refine dj u ?_)
    rw[fU,ea]
    replace u:=cq u
    simp;omega
theorem jJ{s w:ByteArray}(q:w∈words)(h:(s.toList==w.toList)=true):cB s=false:=by
 have e:words.any (λx=>fQ s x)=true:=List.any_eq_true.2 ⟨w,q,h⟩;rw[cB,e];simp
theorem yk(s:ByteArray)(hs:s.size<=1000000000000000):aj prog 106 [.v (.string s)] (.v (.bool (cB s))):=by
 have V:=sh s hs;refine gE func106 ntmps106 results106 ?_
 (refine ae ?_;intro K hK K hK K hK)
 ((iterate 3 revert K);refine aK V ?_;intro K hK K hK K hK)
 cases q:fU s with
 |false=>
  ((iterate 3 revert K);refine dj q ?_)
  rw[cB,q];rfl
 |true=>
  have hz:=zD q;have L:=yF (kr s 0)
  have e0:rJ s=(kr s 0:Nat):=by rw[uc s 0 hz.1];simp[rJ,hz.1]
  ((iterate 3 revert K);refine ak q ?_;intro K hK K hK K hK)
  ((iterate 3 revert K);refine dA L q ?_;intro K hK)
  refine cn.part (λh1=>?_) (λh1=>?_)
  ·(revert K;refine ak h1 ?_;intro K hK K hK)
   refine cn.part (λY=>?_) (λY=>?_)
   ·(revert K;revert K;refine ak Y ?_)
    rw[jJ (.head _) Y]
   ·(revert K;revert K;refine ak Y ?_;intro K hK K hK)
    refine cn.part (λW=>?_) (λW=>?_)
    ·(revert K;revert K;refine ak W ?_)
     rw[jJ (.tail _ (.head _)) W]
    ·(revert K;revert K;refine ak W ?_;intro K hK K hK)
     refine cn.part (λU=>?_) (λU=>?_)
     ·(revert K;revert K;refine ak U ?_)
      rw[jJ (.tail _ (.tail _ (.head _))) U]
     ·(revert K;revert K;refine ak U ?_;intro K hK K hK)
      refine cn.part (λO=>?_) (λO=>?_)
      ·(revert K;revert K;refine ak O ?_)
       rw[jJ (.tail _ (.tail _ (.tail _ (.head _)))) O]
      ·(revert K;revert K;refine ak O ?_;intro K hK K hK)
       refine cn.part (λH=>?_) (λH=>?_)
       ·(revert K;revert K;refine ak H ?_)
        rw[jJ (.tail _ (.tail _ (.tail _ (.tail _ (.head _))))) H]
       ·(revert K;revert K;refine ak H ?_;intro K hK K hK)
        refine cn.part (λA=>?_) (λA=>?_)
        ·(revert K;revert K;refine ak A ?_)
         rw[jJ (.tail _ (.tail _ (.tail _ (.tail _ (.tail _ (.head _)))))) A]
        ·(revert K;revert K;refine ak A ?_;intro K hK)
         refine cn.part (λu=>?_) (λu=>?_)
         ·(revert K;refine ak u ?_)
          rw[jJ (.tail _ (.tail _ (.tail _ (.tail _ (.tail _ (.tail _ (.head _))))))) u]
         ·(revert K;refine ak u ?_)
          rw[cB,q,e0,h1];simp only[words,List.any_cons,List.any_nil,fQ,Y,W,U,O,H,A,u]
          rfl
  ·(revert K;refine ak h1 ?_)
   rw[cB,q,e0,h1];rfl
theorem u7(s:ByteArray):(s.toList==(⟨#[]⟩:ByteArray).toList)=pc s:=by
 rw[Bool.eq_iff_iff,toList_inj];unfold pc;rw[decide_eq_true_iff]
 constructor
 ·rintro rfl;rfl
 ·intro h;obtain⟨⟨l⟩⟩:=s
  cases l with
  |nil=>rfl
  |cons x l=>simp[ByteArray.size]at h
theorem M4(v:Ef)(hs:v.text.size<=1000000000000000):aj prog 107 [.agg (To v)] (.v (.bool (bo v))):=by
 obtain⟨kd,n,s⟩:=v;simp only[To];simp only at hs;refine gE func107 ntmps107 results107 ?_
 (refine ae ?_;intro K hK)
 cases A:(kd==1)with
 |true=>
  (revert K;refine ak A ?_;intro K hK K hK K hK)
  cases u:decide (-1099511627776<=n)with
  |false=>
   ((iterate 3 revert K);refine dj u ?_)
   have e:decide (-jR<=n)=false:=u;simp only[bo,A,if_true,e];simp
  |true=>
   ((iterate 3 revert K);refine ak u ?_;intro K hK K hK K hK)
   cases O:decide (n<=1099511627776)with
   |false=>
    ((iterate 3 revert K);refine dj (rL u O) ?_)
    have e:decide (n<=jR)=false:=O;simp only[bo,A,if_true,e];simp
   |true=>
    ((iterate 3 revert K);refine fc u O ?_)
    have e1:decide (-jR<=n)=true:=u;have e2:decide (n<=jR)=true:=O;simp only[bo,A,if_true,e1,e2,u7,Bool.and_true]
 |false=>
  (revert K;refine ak A ?_;intro K hK)
  refine b6 (ι:=Nat) (λi=>[(1,.ptr 0 0 3 0 0),(2,.v (.bool false)),(3,.v (.int .i64 i))]) (λ_=>[some ⟨171,3,false,[[.v (.int .i64 kd),.v (.int .i64 n),.v (.string s)]]⟩]) (λi=>s.size-i) (λi=>i<=s.size∧∀j(h:j<s.size),j<i->jm s[j].toNat=true) 0 ⟨zd,λj _ h=>absurd h zd⟩ ?_ ?_
  ·refine ab (bJ ?_) ar ar
   rfl
  ·rintro i ⟨hi,hP⟩ K hK;simp only[bP,afO,afP,afU,afV,go_sem]
   (revert K;revert K;refine ae ?_;intro K hK K hK K hK)
   cases h:decide ((i:Int)<(s.size:Int))with
   |true=>
    have H:i<s.size:=by replace h:=cq h;omega
    have eW:=ag (k:=i) zd;have eA:=uc s i H
    rcases tB (kr s i)with⟨V,q⟩|⟨V,Y,q⟩|⟨V,Y,U,q⟩|⟨V,Y,U,W,q⟩|⟨V,Y,U,W,q⟩
    ·have d1:decide (((kr s i:Nat):Int)<32)=true:=b0
     ((iterate 3 revert K);refine dj (nq h d1 eW) ?_)
     have e:kG s=false:=mR H (by rw[<-eA];exact q);simp only[bo,A,e,afW,ite_self];simp
    ·have d1:decide (((kr s i:Nat):Int)<32)=false:=bi;have d2:decide (126<((kr s i:Nat):Int))=true:=b0
     ((iterate 3 revert K);refine dj (pG h d1 d2 eW) ?_)
     have e:kG s=false:=mR H (by rw[<-eA];exact q);simp only[bo,A,e,afW,ite_self];simp
    ·have d1:decide (((kr s i:Nat):Int)<32)=false:=bi;have d2:decide (126<((kr s i:Nat):Int))=false:=bi
     ((iterate 3 revert K);refine dj (qq h d1 d2 U eW) ?_)
     have e:kG s=false:=mR H (by rw[<-eA];exact q);simp only[bo,A,e,afW,ite_self];simp
    ·have d1:decide (((kr s i:Nat):Int)<32)=false:=bi;have d2:decide (126<((kr s i:Nat):Int))=false:=bi
     ((iterate 3 revert K);refine dj (oT h d1 d2 U W eW) ?_)
     have e:kG s=false:=mR H (by rw[<-eA];exact q);simp only[bo,A,e,afW,ite_self];simp
    ·have d1:decide (((kr s i:Nat):Int)<32)=false:=bi;have d2:decide (126<((kr s i:Nat):Int))=false:=bi
     ((iterate 3 revert K);refine dj (oT h d1 d2 U W eW) ?_)
     exact aw.mk (i+1) ⟨zd,λj hj h3=>(by
      rcases Nat.lt_or_ge j i with r|r
      ·exact hP j hj r
      ·have e:j=i:=zd
       subst e
       rw[<-eA];exact q)⟩ zd (by exact ab ar ar ar)
   |false=>
    have he:i=s.size:=by replace h:=cq h;omega
    have ea:kG s=true:=y5 (λj hj=>hP j hj zd)
    ((iterate 3 revert K);refine ak h ?_;intro K hK K hK)
    cases u:(kd==2)with
    |false=>
     (revert K;revert K;refine dj u ?_)
     simp only[bo,A,u];simp
    |true=>
     (revert K;revert K;refine ak u ?_;intro K hK K hK)
     cases O:(n==0)with
     |false=>
      (revert K;revert K;refine dj (rL u O) ?_)
      simp only[bo,A,u,O];simp
     |true=>
      (revert K;revert K;refine fc u O ?_)
      simp only[bo,A,u,O,ea];simp;omega
@[go_sem] theorem aaG(n:Nat)(l:List (ByteArray×Int)):bD n (Zh l)=true:=bw _ (λ_=>rfl) l
def nmR:Option B0->AV
 |none=> .ck [.v (.map none),.v (.bool false)]
 |some _=> .ck [.vec 1 0,.v (.bool true)]
section
variable {P:Program}
end
def aT(l:Do):List C5:=l.map (λk:Nat=>[.v (.int .i64 (k:Int))])
attribute [go_sem] Value.oneCell'
def zY(i:Nat):AV:= .v (.int .i64 ((8000024+i:Nat):Int))
def fS(i:Nat):C5:=[zY i,.v (.string ⟨#[]⟩),.v (.slice none 0 0)]
def kF(f:Nat->C5):Nat->List C5
 |0=>[]
 |n+1=>kF f n++[f n]
@[go_sem] theorem pQ(f:Nat->C5):∀n,(kF f n).length=n
 |0=>rfl
 |n+1=>by rw[kF,List.length_append,pQ f n];rfl
def marksOf(f:Nat->C5):List C5:=kF f 12
mutual
def dn:Ex->C5
 | .mk k s l=>[.v (.int .i64 k),.v (.string s),.aB 3 (Da l++marksOf fS) l.length]
def Da:IO->List C5
 | []=>[]
 |x::xs=>dn x::Da xs
end
theorem u0:∀l:IO,Da l=l.map dn
 | []=>rfl
 |x::xs=>by rw[Da,u0 xs,List.map_cons]
theorem mN(x:Ex):dn x=[.v (.int .i64 x.kind),.v (.string x.label),.aB 3 (x.kids.map dn++marksOf fS) x.kids.length]:=by
 obtain⟨k,s,l⟩:=x;rw[dn,u0];rfl
theorem gz(n:Nat)(a b:List C5):bD n (a++b)=(bD n a&&bD n b):=by
 induction a with
 |nil=>simp[bD]
 |cons x a ih=>simp[bD,ih,Bool.and_assoc]
theorem ej(n:Nat)(f:Nat->C5)(h:∀i,aU n (f i)=true):∀k,bD n (kF f k)=true
 |0=>rfl
 |k+1=>by simp[kF,gz,ej n f h k,bD,h]
theorem GK(n:Nat)(f:Nat->C5)(h:∀i,aU n (f i)=true):bD n (marksOf f)=true:=ej n f h 12
@[go_sem] theorem XJ(f:Nat->C5):(marksOf f).length=12:=pQ f 12
theorem zH(n:Nat)(i:Nat):aU n (fS i)=true:=rfl
theorem nk(n:Nat)(x:Ex):aU n (dn x)=true:=by
 induction x using Ex.ind with
 |h k s l ih=>
  rw[dn,u0];simp only[aU,AV.wf,Bool.and_true,Bool.true_and,gz,GK n _ (zH n)];exact DQ (λr u=>by obtain⟨x,q,rfl⟩:=List.mem_map.1 u;exact ih x q)
theorem zG(n:Nat)(l:IO):bD n (l.map dn)=true:=bw _ (nk n) l
attribute [go_sem] nk zG gz
@[go_sem] theorem abN(n k:Nat):bD n (kF fS k)=true:=ej n _ (zH n) k
@[go_sem] theorem BM(n:Nat):bD n (marksOf fS)=true:=GK n _ (zH n)
theorem IK(i:Nat)(hi:i<1000):aj prog 67 [.v (.int .i64 1),.v (.int .i64 i)] (zY i):=by
 unfold zY;refine gE func67 ntmps67 results67 ?_;refine ae ?_;rw[bT (n:=(1:Int)+7) zs zs];rw[bT (n:=(1000003:Int)*(1+7)) zs zs];rw[bT zd zd]
 congr 2
theorem yK(i:Nat)(hi:i<1000):aj prog 65 [.v (.int .i64 1),.v (.int .i64 i)] (.agg (fS i)):=by
 have M:=IK i hi;simp only[zY]at M;simp only[fS,zY];refine gE func65 ntmps65 results65 ?_
 (refine ae ?_;intro K hK K hK)
 (revert K;revert K;refine aK M ?_)
 (refine iG.of 40 rfl ?_;simp only[go_sem])
theorem re{α β:Type}(f:α->β)(l:List α)(k:Nat)(h:k<l.length):(l.take (k+1)).map f=(l.take k).map f++[f l[k]]:=by
 rw[List.take_add_one,List.map_append];simp[h]
theorem Db(l:IO)(hl:l.length<=1000000)(H:∀x,x∈l->aj prog 10 [.agg (aN x)] (.agg (dn x))) :
  aj prog 33 [.aB 3 (l.map aN) l.length] (.aB 3 (l.map dn++marksOf fS) l.length):=by
 have U:IntKind.i64.wrap ((l.length:Int)+12)=((l.length+12:Nat):Int):=by rw[bT zd zd];omega
 refine gE func33 ntmps33 results33 ?_
 (refine ak U ?_;intro K hK)
 refine b6 (ι:=Nat) (λk=>[(0,.aB 3 (l.map aN) l.length),(2,.v (.slice none 0 0)),(3,.vec 0 k),(4,.v (.int .i64 k))]) (λk=>[some ⟨25,3,true,(l.take k).map dn⟩]) (λk=>l.length-k) (λk=>k<=l.length) 0 zd ?_ ?_
 ·refine ab (bJ ?_) ar ar
  rfl
 ·intro k V K hK;simp only[bP,afO,afP,afU,afV,go_sem]
  (revert K;revert K;refine ae ?_;intro K hK K hK K hK)
  refine cn.part (λh=>?_) (λh=>?_)
  ·have q:k<l.length:=by replace h:=cq h;omega
   have eG:=getD_map aN l k [] q;have eW:=ag (k:=k) zd;have HX:=H l[k] (List.getElem_mem q);have eT:(l.take (k+1)).map dn=(l.take k).map dn++[dn l[k]]:=re dn l k q;simp only[aA,mN]at HX eG eT
   ((iterate 3 revert K);refine ak (nq eG eW @aA) ?_;iterate 5 intro K hK)
   refine ai.one HX ?_
   have eL:(l.take k).length=k:=by rw[List.length_take];omega
   ((iterate 5 revert K);refine fc eW eL ?_)
   exact aw.mk (k+1) zd zd (by refine ab ar (bJ ?_) ar;exact eT.symm)
  ·have u:k=l.length:=by replace h:=cq h;omega
   have eA:List.map dn (List.take k l)=l.map dn:=by rw[u,List.take_length]
   ((iterate 3 revert K);refine ak eA ?_;intro K hK)
   refine b6 (ι:=Nat) (λi=>[(0,.aB 3 (l.map aN) l.length),(2,.v (.slice none 0 0)),(3,.vec 0 (l.length+i)),(6,.v (.int .i64 i))]) (λi=>[some ⟨25,3,true,l.map dn++kF fS i⟩]) (λi=>12-i) (λi=>i<=12) 0 zd ?_ ?_
   ·refine ab (bJ ?_) (bJ ?_) ar
    ·exact⟨u,rfl⟩
    ·simp[kF]
   ·intro i hi K hK;simp only[bP,afO,afP,afU,afV,go_sem]
    (revert K;revert K;refine ae ?_;intro K hK K hK K hK)
    refine cn.part (λA=>?_) (λA=>?_)
    ·have q:i<12:=by replace A:=cq A;omega
     have eW:=ag (k:=i) zd;have M:=yK i zd;simp only[fS,zY]at M
     ((iterate 3 revert K);refine ak eW ?_;iterate 4 intro K hK)
     ((iterate 4 revert K);refine dA M eW ?_)
     exact aw.mk (i+1) zd zd (by refine ab (bJ ?_) (bJ ?_) ar<;>rfl)
    ·have O:i=12:=by replace A:=cq A;omega
     have eM:kF fS i=marksOf fS:=by rw[O];rfl
     ((iterate 3 revert K);refine ak eM ?_)
     exact iG.aB (by simp only[gz,zG,BM,Bool.and_self])
def Ex.lens(n:Nat)(x:Ex):Prop:=∀y,y∈aq x->y.kids.length<=n
theorem II(x:Ex)(u:x.lens 1000000):aj prog 10 [.agg (aN x)] (.agg (dn x)):=by
 induction x using Ex.ind with
 |h k s l ih=>
  have H:∀y,y∈l->y.lens 1000000:=λy q z A=>u z (by rw[aq,bN];exact List.mem_cons_of_mem _ (List.mem_flatMap.2 ⟨y,q,A⟩));have C:=Db l (u (.mk k s l) (by rw[aq];exact List.mem_cons_self)) (λy q=>ih y q (H y q));rw[aA,mN];simp only[Ex.kind,Ex.label,Ex.kids];refine gE func10 ntmps10 results10 ?_
  (refine ae ?_;intro K hK K hK)
  (revert K;revert K;refine aK C ?_)
  (refine iG.of 40 rfl ?_;simp only[go_sem])
def Vr(i:Nat):C5:=[.v (.string ⟨#[]⟩),.v (.string ⟨#[]⟩),.v (.bool false),.v (.string ⟨#[109]⟩),.v (.string ⟨#[]⟩),zY i,.v (.string ⟨#[]⟩),.v (.slice none 0 0)]
def Vo(i:Nat):C5:=[zY i,.v (.int .i64 0),.v (.string ⟨#[]⟩),.v (.string ⟨#[]⟩),.v (.int .i64 0),.v (.int .i64 0),.v (.string ⟨#[]⟩),.v (.int .i64 0),.v (.string ⟨#[]⟩),.v (.string ⟨#[]⟩),.v (.int .i64 0),.v (.int .i64 0),.v (.string ⟨#[]⟩)]
def Vq(i:Nat):C5:=[.v (.int .i64 0),.v (.string ⟨#[]⟩),.v (.string ⟨#[]⟩),.v (.int .i64 0),zY i,.v (.string ⟨#[]⟩)]
def PQ(p:qS):C5:=[.v (.string p.bP),.v (.string p.to),.v (.bool p.path),.v (.string p.label),.v (.string p.name),.v (.int .i64 p.expr.kind),.v (.string p.expr.label),.aB 3 (p.expr.kids.map dn++marksOf fS) p.expr.kids.length]
theorem Nv(n:Nat)(p:qS):aU n (PQ p)=true:=by simp only[PQ,aU,AV.wf,gz,zG,BM,Bool.and_true,Bool.and_self]
@[go_sem] theorem aaF(n:Nat)(l:PP):bD n (l.map PQ)=true:=bw _ (Nv n) l
@[go_sem] theorem abR(n k:Nat):bD n (kF Vr k)=true:=ej n _ (λ_=>rfl) k
@[go_sem] theorem Yi(n:Nat):bD n (marksOf Vr)=true:=ej n _ (λ_=>rfl) 12
@[go_sem] theorem abM(n k:Nat):bD n (kF Vo k)=true:=ej n _ (λ_=>rfl) k
@[go_sem] theorem Yf(n:Nat):bD n (marksOf Vo)=true:=ej n _ (λ_=>rfl) 12
@[go_sem] theorem abQ(n k:Nat):bD n (kF Vq k)=true:=ej n _ (λ_=>rfl) k
@[go_sem] theorem Yh(n:Nat):bD n (marksOf Vq)=true:=ej n _ (λ_=>rfl) 12
theorem DU{n:Nat}(h:n<=1000000):IntKind.i64.wrap ((n:Int)+12)=((n+12:Nat):Int):=by rw[bT zd zd];omega
def Lb.lens(n:Nat)(q:Lb):Prop:=q.wH.length<=n∧q.conds.length<=n∧q.ret.length<=n∧∀p,p∈q.wH->p.expr.lens n
inductive Le:AV->AV->Prop
 |refl (a:AV):Le a a
 |jw (p:(Nat->Prop)->World->Value->Prop) (a b:AV):Le a b->Le (.jw p a) b
 |nil (z:Nat):Le (.v (.slice none 0 0)) (.aB z [] 0)
 |agg (cs ds:C5):cs.length=ds.length->(∀(i:Nat)c d,cs[i]?=some c->ds[i]?=some d->Le c d)->Le (.agg cs) (.agg ds)
 |aB (z:Nat) (rows rows':List C5) (len:Nat):len<=rows'.length->rows'.length<=rows.length->(∀(i:Nat)r r',rows[i]?=some r->rows'[i]?=some r'->r.length=r'.length) ->
   (∀(i j:Nat)r r' c c',rows[i]?=some r->rows'[i]?=some r'->r[j]?=some c->r'[j]?=some c'->Le c c')->Le (.aB z rows len) (.aB z rows' len)
section
variable {D:Nat->Prop} {nu:EQ} {o:AC} {w:World} {P:Program}
theorem RA.le{a b:AV}(h:Le a b):∀{x:Value},RA D nu o w a x->RA D nu o w b x:=by
 induction h with
 |refl a=>exactλh=>h
 |jw p a b _ ih=>intro x h;cases h with|jw _ _ _ S h0 h1 H Y W=>exact ih W
 |nil z=>intro x h;obtain rfl:=h.di;exact .b5 z
 |agg cs ds hl _ ih=>
  intro x h
  cases h with
  |agg _ xs h1 Y W=>
   refine .agg ds xs zd (λi d y hd hy=>?_) W
   have hi:i<cs.length:=by have:=(aeu.1 hd).1;omega
   exact ih i cs[i] d (aeC hi) hd (Y i _ y (aeC hi) hy)
 |aB z rows rows' len h1 Y W _ ih=>
  intro x h;have up:∀(i:Nat)q,rows'[i]?=some q->∃r,rows[i]?=some r:=λi q u=>⟨_,aeC (by have:=(aeu.1 u).1;omega)⟩
  have upj:∀(i j:Nat)q O,rows'[i]?=some q->q[j]?=some O->∃r c,rows[i]?=some r∧r[j]?=some c:=λi j q O u H=>by
   obtain⟨r,A⟩:=up i q u;exact⟨r,_,A,aeC (by have:=W i r q A u;have:=(aeu.1 H).1;omega)⟩
  cases h with
  |b5=>
   have:rows'=[]:=afX (by simpa using Y)
   subst this;exact .b5 z
  |cp _ a=>
   have:rows'=[]:=afX (by simpa using Y)
   subst this;exact .cp z a
  |aB _ _ _ b off cap f k1 k2 k3 k4 k5 k6 k7 k8=>
   refine .aB z rows' len b off cap f h1 zd k3 (λhne=>k4 (λe=>hne (by subst e;exact afX (by simpa using Y)))) (λi q u=>?_) (λi j q O u H=>?_) (λi j q O u H=>?_) (λi j q O u H=>?_)
   ·obtain⟨r,A⟩:=up i q u;rw[<-W i r q A u];exact k5 i r A
   ·obtain⟨r,c,V,U⟩:=upj i j q O u H;exact k6 i j r c V U
   ·obtain⟨r,c,V,U⟩:=upj i j q O u H;exact ih i j r q c O V u U H (k7 i j r c V U)
   ·obtain⟨r,c,V,U⟩:=upj i j q O u H;exact k8 i j r c V U
def zN(cs ds:C5):Prop:=cs.length=ds.length∧∀(i:Nat)c d,cs[i]?=some c->ds[i]?=some d->Le c d
theorem zN.nil:zN [] []:=⟨rfl,λi c d h=>by simp at h⟩
theorem zN.cons{c d:AV}{cs ds:C5}(h:Le c d)(k:zN cs ds):zN (c::cs) (d::ds):=⟨by simp[k.1],λi x y u q=>by
 cases i with
 |zero=>cases u;cases q;exact h
 |succ i=>exact k.2 i x y u q⟩
theorem zN.refl(cs:C5):zN cs cs:=⟨rfl,λi c d h k=>by rw[h]at k;cases k;exact .refl c⟩
theorem zN.agg{cs ds:C5}(h:zN cs ds):Le (.agg cs) (.agg ds):= .agg cs ds h.1 h.2
theorem Le.rows{α:Type}{z:Nat}{f g:α->C5}{xs:List α}{more:List C5}(h:∀x,x∈xs->zN (f x) (g x)):Le (.aB z (xs.map f++more) xs.length) (.aB z (xs.map g) xs.length):=by
 have key:∀(i:Nat)r q,(xs.map f++more)[i]?=some r->(xs.map g)[i]?=some q->zN r q:=λi r q A u=>by
  have hi:i<xs.length:=by simpa using(aeu.1 u).1
  rw[List.getElem?_append_left (by simpa using hi)]at A;rw[List.getElem?_map,aeC hi]at A u;cases A;cases u;exact h _ (afy hi)
 exact .aB z _ _ _ zk zk (λi r q A u=>(key i r q A u).1) (λi j r q c U A u O H=>(key i r q A u).2 j c U O H)
theorem gC.le{cs ds:C5}{xs:Array Value}(h:zN cs ds)(k:gC D nu o w cs xs):gC D nu o w ds xs:=⟨by rw[<-h.1];exact k.len,λi d x q u=>by
 have hi:i<cs.length:=by have:=(aeu.1 q).1;have:=h.1;omega
 exact(k.at' i cs[i] x (aeC hi) u).le (h.2 i _ d (aeC hi) q)⟩
theorem aj.le{f:FuncId}{args args':C5}{r:AV}(h:aj P f args r)(q:aU 0 args'=true)(hl:zN args' args):aj P f args' r:=h.args q (λ_ _ _ _ k=>k.le hl)
end
theorem yC(x:Ex):zN (dn x) (aN x):=by
 induction x using Ex.ind with
 |h k s l ih=>
  rw[mN,aA];exact .cons (.refl _) (.cons (.refl _) (.cons (.rows ih) .nil))
theorem Fx(i:Nat):zN (fS i) (aN (.mk ((8000024+i:Nat):Int) ⟨#[]⟩ [])):=by
 rw[aA];exact .cons (.refl _) (.cons (.refl _) (.cons (.nil 3) .nil))
section
variable {P:Program}
end
def aaQ:Go.Shelf.Ren:=⟨fun|189=>112|125=>135|257=>144|128=>171|129=>172|294=>179|295=>180|296=>181|297=>182|298=>183|299=>184|216=>185|300=>186|301=>187|328=>210|329=>204|330=>205|331=>211|332=>212|215=>202|343=>223|n=>n,fun|28=>56|3=>3|46=>212|0=>0|51=>184|53=>256|4=>4|183=>249|182=>248|131=>105|5=>5|9=>9|218=>279|222=>283|228=>296|229=>297|n=>n,λn=>n⟩
def aaN:Go.Shelf.Ren:=⟨fun|20=>113|n=>n,fun|22=>56|3=>3|4=>4|0=>0|n=>n,λn=>n⟩
theorem jv(b:Nat)(l:Do):bD b (aT l)=true:=bw _ (λ_=>rfl) _
attribute [go_sem] jv
theorem Fe:∀(l:Do)(n i:Nat),l[i]?=some n->l.idxOf n<=i
 | [],n,i,h=>by simp at h
 |x::l,n,0,h=>by simp at h;subst h;simp
 |x::l,n,i+1,h=>by
  have:=Fe l n i (by simpa using h)
  rw[List.idxOf_cons];cases x==n<;>simp only[cond_true,cond_false]<;>omega
def aaP:Go.Shelf.Ren:=⟨fun|4=>111|n=>n,fun|22=>98|25=>3|3=>3|4=>4|9=>9|20=>20|0=>0|n=>n,λn=>n⟩
def ad0(w:B0)(x:Ex):Prop:=∀fr:Do,fr.Pairwise (· < ·)->(∀j,j∈fr->j<=w.length)->aj prog 48 [.agg [bY w],.agg (aN x),.aB 1 (aT fr) fr.length] (.aB 1 (aT (bh w (Lg x) fr)) (bh w (Lg x) fr).length)
inductive G7:Ex->Prop
 |lab (s:ByteArray):G7 (.mk 1 s [])
 |many (k:Int) (s:ByteArray) (l:IO):(k=2∨k=3)->l.length<=900->(∀x∈l,G7 x)->G7 (.mk k s l)
 |one (k:Int) (s:ByteArray) (x:Ex):(k=4∨k=5∨k=6)->G7 x->G7 (.mk k s [x])
theorem yf{α β:Type}(f:α->List β)(l:List α)(k:Nat)(h:k<l.length):((l.take (k+1)).flatMap f).length=((l.take k).flatMap f).length+(f l[k]).length:=by
 rw[List.take_add_one,List.flatMap_append,aew,aeC h];simp only[Option.toList_some,afY,List.flatMap_nil,List.append_nil]
theorem Cs{α β:Type}(f:α->List β)(l:List α)(k:Nat):((l.take k).flatMap f).length<=(l.flatMap f).length:=by
 conv=>rhs;rw[<-List.take_append_drop k l,List.flatMap_append,aew]
 omega
theorem pD{α β:Type}(f:α->List β):∀(l:List α)(x:α),x∈l->(f x).length<=(l.flatMap f).length
 |y::l,x,h=>by
  rw[afY,aew]
  rcases afZ.1 h with rfl|h
  ·omega
  ·have:=pD f l x h;omega
theorem jc(k:Int)(s:ByteArray)(l:IO):(aq (.mk k s l)).length=1+(l.flatMap aq).length:=by
 rw[aq,bN,List.length_cons];omega
theorem EV(x:Ex):1<=(aq x).length:=by
 obtain⟨k,s,l⟩:=x;rw[jc];omega
theorem ye(l:IO):l.length<=(l.flatMap aq).length:=by
 induction l with
 |nil=>simp
 |cons x l ih=>rw[afY,aew,List.length_cons];have:=EV x;omega
theorem Ra(x:Ex)(u:(aq x).length<=1000000):aj prog 136 [.agg (aN x)] (.v (.int .i64 ((aq x).length:Nat))):=by
 induction x using Ex.ind with
 |h kd s l ih=>
  rw[jc]at u⊢;have hl:=ye l;rw[aA];simp only[Ex.kind,Ex.label,Ex.kids];refine gE func136 ntmps136 results136 ?_
  (refine ae ?_;intro K hK)
  refine b6 (ι:=Nat) (λk=>[(1,.ptr 0 0 3 0 0),(2,.v (.int .i64 0)),(3,.v (.int .i64 (1+((l.take k).flatMap aq).length:Nat))),(4,.v (.int .i64 k))]) (λ_=>[some ⟨25,3,false,[[.v (.int .i64 kd),.v (.string s),.aB 3 (l.map aN) l.length]]⟩]) (λk=>l.length-k) (λk=>k<=l.length) 0 zd ?_ ?_
  ·refine ab (bJ ?_) ar ar;exact⟨rfl,rfl⟩
  ·intro k H K hK;simp only[bP,List.foldl_cons,List.foldl_nil,List.replicate_succ,List.replicate_zero,go_sem]
   (revert K;revert K;refine ae ?_;intro K hK K hK K hK)
   refine cn.part (λh=>?_) (λh=>?_)
   ·have q:k<l.length:=by replace h:=cq h;omega
    have eW:=ag (k:=k) zd;have eG:=getD_map aN l k [] q;have V:=yf aq l k q;have U:=Cs aq l (k+1);have O:=pD aq l l[k] (afy q);have C:=ih l[k] (afy q) zd
    have eN:IntKind.i64.wrap (((1+((l.take k).flatMap aq).length:Nat):Int)+(((aq l[k]).length:Nat):Int))=((1+((l.take (k+1)).flatMap aq).length:Nat):Int):=by
     rw[bT zd zd];omega
    simp only[aA]at C eG
    ((iterate 3 revert K);refine ak eG ?_;iterate 4 intro K hK)
    ((iterate 4 revert K);refine Pg C eW eN ?_)
    exact aw.mk (k+1) zd zd (by exact ab ar ar ar)
   ·have A:k=l.length:=by replace h:=cq h;omega
    have eA:l.take k=l:=by rw[A,List.take_length]
    ((iterate 3 revert K);exact vT eA)
theorem iP(x:Ex):∀y,y∈aq x->(aq y).length<=(aq x).length:=by
 induction x using Ex.ind with
 |h k s l ih=>
  intro y q;rw[aq,bN]at q
  rcases afZ.1 q with rfl|q
  ·exact Nat.le_refl _
  ·obtain⟨z,u,q⟩:=af0.1 q;have H:=ih z u y q;have A:=pD aq l z u;rw[jc];omega
theorem me(x:Ex):x.kids.length<=(aq x).length:=by
 obtain⟨k,s,l⟩:=x;rw[jc]
 have:=ye l
 simp only[Ex.kids];omega
theorem Tp{x:Ex}{n:Nat}(h:(aq x).length<=n):x.lens n:=λy q=>by
 have A:=iP x y q;have u:=me y;omega
theorem Ul(x:Ex):x.ok->∀y,y∈aq x->wG y.label:=by
 induction x using Ex.ind with
 |h k s l ih=>
  intro h y q;rw[Ex.ok]at h;rw[aq,bN]at q
  rcases afZ.1 q with rfl|q
  ·exact h.1
  ·obtain⟨z,u,q⟩:=af0.1 q;exact ih z u (qn.1 h.2 z u) y q
theorem AE(x:Ex)(h:x.ok):aj prog 46 [.agg (aN x)] (.v (.bool (aD x))):=
 .vb zo (by simp only[aU,AV.wf,fp,Bool.and_self]) (λD nu w vargs q=>by
  obtain⟨a,rfl,u⟩:=ik q;obtain⟨ca,rfl,ka⟩:=Ds u
  exact zI x ca w (Dy x ca ka) h)
def Ff(p:Ex->Bool):IO->Nat->Int
 | [],_=> -1
 |x::xs,i=>if p x then(i:Int)else Ff p xs (i+1)
theorem Fg(p:Ex->Bool):∀(l:IO)(i:Nat),decide (0<=Ff p l i)=l.any p
 | [],i=>rfl
 |x::xs,i=>by
  rw[Ff,List.any_cons]
  cases p x with
  |true=>simp
  |false=>simpa using Fg p xs (i+1)
theorem CR{g:FuncId}(p:Ex->Bool)(l:IO)(hl:l.length<=1000000)(H:∀x,x∈l->aj prog g [.agg (aN x)] (.v (.bool (p x)))) :
  aj prog 130 [.aB 3 (l.map aN) l.length,.fn g [] []] (.v (.int .i64 (Ff p l 0))):=by
 refine gE func130 ntmps130 results130 ?_
 (refine ae ?_;intro K hK)
 refine bg (ι:=Nat) 8 (λi=>[(5,.undef),(8,.v (.int .i64 i))]) (λi=>l.length-i) (λi=>i<=l.length∧Ff p l 0=Ff p (l.drop i) i) 0 ⟨Nat.zero_le _,rfl⟩ ?_ ?_
 ·refine ab (bJ ?_) ar ar
  rfl
 rintro i ⟨hi,q⟩ K hK
 (revert K;revert K;refine ae ?_;intro K hK K hK K hK)
 refine cn.part (λh=>?_) (λh=>?_)
 ·have u:i<l.length:=by replace h:=cq h;omega
  have eW:=ag (k:=i) zd;have eG:=getD_map aN l i [] u;have HX:=H l[i] (afy u);rw[List.drop_eq_getElem_cons u,Ff]at q;simp only[aA]at HX eG
  ((iterate 3 revert K);refine fc eG @aA ?_;iterate 5 intro K hK)
  refine ai.one HX ?_
  rcases af1 (p l[i])with A|A
  ·rw[A,if_pos rfl]at q
   ((iterate 5 revert K);refine ak A ?_)
   rw[q]
  ·rw[A,if_neg zs]at q
   ((iterate 5 revert K);refine fc A eW ?_)
   exact aw.mk (i+1) ⟨zd,q⟩ zd (by exact ab ar ar ar)
 ·have:i=l.length:=by replace h:=cq h;omega
  rw[this,List.drop_length,Ff]at q
  ((iterate 3 revert K);refine ae ?_)
  rw[q]
theorem oQ{g:FuncId}(p:Ex->Bool)(l:IO)(hl:l.length<=1000000)(H:∀x,x∈l->aj prog g [.agg (aN x)] (.v (.bool (p x)))) :
  aj prog 90 [.aB 3 (l.map aN) l.length,.fn g [] []] (.v (.bool (l.any p))):=by
 have C:=CR p l hl H;refine gE func90 ntmps90 results90 ?_
 (refine ae ?_;intro K hK K hK)
 (revert K;revert K;refine aK C ?_)
 rw[Fg]
theorem IQ(x:Ex)(H:aj prog 51 [.agg (aN x)] (.v (.bool (aS x)))):aj prog 91 [.agg (aN x)] (.v (.bool (!aS x))):=by
 simp only[aA]at H⊢;refine gE func91 ntmps91 results91 ?_
 (refine ae ?_;intro K hK K hK)
 (revert K;revert K;exact lE H)
theorem Ti(x:Ex)(V:x.lens 1000000):aj prog 51 [.agg (aN x)] (.v (.bool (aS x))):=by
 induction x using Ex.ind with
 |h k s l ih=>
  have hl:l.length<=1000000:=V (.mk k s l) (by rw[aq];exact afr);have H:=λx(h:x∈l)=>ih x h (λy hy=>V y (by rw[aq,bN];exact ae7 _ (af0.2 ⟨x,h,hy⟩)));have C1:=oQ aS l hl H;have Y:=oQ (λx=> !aS x) l hl (λx h=>IQ x (H x h))
  have W:l.all aS = !l.any (λx=> !aS x):=by simp[List.all_eq_not_any_not]
  simp only[aA,Ex.kind,Ex.label,Ex.kids,aS,rG,nM]
  by_cases A:k=4
  ·subst A;refine gE func51 ntmps51 results51 ?_;exact sY
  ·by_cases q:k=6
   ·subst q;refine gE func51 ntmps51 results51 ?_;exact sY
   ·by_cases O:k=3
    ·subst O;refine gE func51 ntmps51 results51 ?_
     (refine ae ?_;intro K hK K hK K hK)
     ((iterate 3 revert K);exact lE C1)
    ·by_cases U:k=2
     ·subst U;refine gE func51 ntmps51 results51 ?_
      (refine ae ?_;intro K hK K hK K hK)
      ((iterate 3 revert K);refine aK Y ?_)
      rw[W]
     ·by_cases u:k=5
      ·subst u;refine gE func51 ntmps51 results51 ?_
       (refine ae ?_;intro K hK K hK K hK)
       ((iterate 3 revert K);refine aK Y ?_)
       rw[W]
      ·have f4:(k==4)=false:=beq_false_of_ne A;have f6:(k==6)=false:=beq_false_of_ne q;have f3:(k==3)=false:=beq_false_of_ne O;have f2:(k==2)=false:=beq_false_of_ne U;have f5:(k==5)=false:=beq_false_of_ne u;simp only[if_neg A,if_neg q,if_neg O,if_neg U,if_neg u];refine gE func51 ntmps51 results51 ?_;exact vT (qq f4 f6 f3 f2 f5)
def cH(x:Ex):Bool:=aD x&&aS x
theorem I9{x:Ex}(h:aD x=true):x.lens 1000000:=λy q=>by
 simp only[aD,ae6,decide_eq_true_eq]at h;have A:=iP x y q;have u:=me y;omega
theorem wN(x:Ex)(h:x.ok):aj prog 28 [.agg (aN x)] (.v (.bool (cH x))):=by
 have R:=AE x h
 rcases af1 (aD x)with q|q
 ·have E:=Ti x (I9 q);rw[q]at R;rw[show cH x=aS x by rw[cH,q];rfl];simp only[aA]at R E⊢;refine gE func28 ntmps28 results28 ?_
  (refine ae ?_;intro K hK K hK)
  (revert K;revert K;refine aK R ?_;intro K hK K hK)
  (revert K;revert K;exact lE E)
 ·rw[q]at R;rw[show cH x=false by rw[cH,q];rfl];simp only[aA]at R⊢;refine gE func28 ntmps28 results28 ?_
  (refine ae ?_;intro K hK K hK)
  (revert K;revert K;exact Ig R)
theorem MO(x:Ex)(h:(aq x).all Ex.part=true)(hn:(aq x).length<=900):Fit x∧G7 x:=by
 induction x using Ex.ind with
 |h k s l ih=>
  have q:bO k s l.length=true:=afh.1 h (.mk k s l) (by rw[aq];exact afr)
  have Y:∀x,x∈l->x∈aq (.mk k s l):=λx u=>by
   rw[aq,bN];exact ae7 _ (af0.2 ⟨x,u,by obtain⟨k',s',l'⟩:=x;rw[aq];exact afr⟩)
  have H:=λx(u:x∈l)=>ih x u (afh.2 λy W=>afh.1 h y (by rw[aq,bN];exact ae7 _ (af0.2 ⟨x,u,W⟩))) (by
   have V:=iP (.mk k s l) x (Y x u)
   omega)
  have hl:l.length<=900:=by have:=me (.mk k s l);simp only[Ex.kids]at this;omega
  unfold bO at q
  by_cases V:k=1
  ·subst V;simp only[BEq.rfl,if_true,ae6,decide_eq_true_eq]at q;have U:l=[]:=afX q.1;subst U;exact⟨.lab s,.lab s⟩
  ·rw[if_neg (by simpa using V)]at q
   by_cases O:k=2∨k=3
   ·rw[if_pos (by simpa using O)]at q;simp only[ae6,decide_eq_true_eq]at q;exact⟨.many k s l O q.1 (λx u=>(H x u).1),.many k s l O hl (λx u=>(H x u).2)⟩
   ·rw[if_neg (by simpa using O)]at q
    by_cases A:k=4∨k=5∨k=6
    ·rw[if_pos (by simpa [or_assoc]using A)]at q;simp only[ae6,decide_eq_true_eq]at q
     obtain⟨x,rfl⟩:∃x,l=[x]:=by
      match l,q.1 with
      | [x],_=>exact⟨x,rfl⟩
     exact⟨.one k s x A (H x zk).1,.one k s x A (H x zk).2⟩
    ·rw[if_neg (by simpa [or_assoc]using A)]at q;cases q
theorem fO{x:Ex}(h:aD x=true):Fit x∧G7 x:=by
 simp only[aD,ae6,decide_eq_true_eq]at h;exact MO x h.2 zd
noncomputable def kO(x:Ex)(w:B0):Bool:=aD x && @decide (Lg x w) (Classical.propDecidable _)
theorem iN{x:Ex}{w:B0}:kO x w=true↔aD x=true∧Lg x w:=by simp[kO]
end Go.Proofs.YtlhhccmopfamhaaGreatDoor
