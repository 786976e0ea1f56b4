/- kinescopelaw11.awake tells true. -/
import Derived.Test.YtldnlbcibmmbbaaRGood
import Derived.Test.YtldnlbcibmmbbaaRLibT
import Derived.Test.YtldnlbcibmmbbaaRTreeD
import Derived.Test.YtldnlbcibmmbbaaRRef07b
import Derived.Test.YtldnlbcibmmbbaaRLentQ
import Derived.Test.YtldnlbcibmmbbaaRRef11
import Derived.Test.YtldnlbcibmmbbaaRRef11d
import Derived.Test.YtldnlbcibmmbbaaRKept
namespace Go.Proofs.Ytldnlbcibmmbbaa
open Go.RowKit

attribute [local go_sem] Oper.semAt_some

theorem goodRight : qryRight goodQ = true := by kernel_rfl
theorem goodV : onceL (vnames goodQ.pats) = [b1 97, b1 98, b1 99] := by kernel_rfl
theorem goodE : onceL (enames goodQ.pats) = [b1 101] := by kernel_rfl
theorem goodSize : qrySize goodQ = 6 := by kernel_rfl
theorem goodOk : goodQ.ok := by
 refine ⟨fun p hp => ?_, fun c hc => absurd hc (by simp [goodQ]), fun o ho => ?_⟩
 ·simp only [goodQ, List.mem_cons, List.not_mem_nil, or_false] at hp
  rcases hp with rfl | rfl
  ·exact ⟨by unfold okT; decide, by unfold okT; decide, by unfold okT; decide, by unfold okT; decide, by rw [Ex.ok, exsOk]; exact ⟨by unfold okT; decide, trivial⟩⟩
  ·exact ⟨by unfold okT; decide, by unfold okT; decide, by unfold okT; decide, by unfold okT; decide, by rw [Ex.ok, exsOk, exsOk, Ex.ok, exsOk]; exact ⟨by unfold okT; decide, ⟨by unfold okT; decide, trivial⟩, trivial⟩⟩
 ·simp only [goodQ, List.mem_cons, List.not_mem_nil, or_false] at ho
  rcases ho with rfl | rfl <;> exact ⟨by unfold okT; decide, by unfold okT; decide, by unfold Val.ok okT; decide⟩
theorem all3 : all2 seqb [b1 97, b1 98, b1 99] [b1 97, b1 98, b1 99] = true := by kernel_rfl
theorem all1 : all2 seqb [b1 101] [b1 101] = true := by kernel_rfl

theorem rdStrRow {w : World} {g : Nat} {t : TypeId} {fz : Nat × Nat} {C : Array Value} {xs : List ByteArray} {n : Nat} (h : w.heap[g]? = some (.cells C t fz)) (hC : C.toList = xs.flatMap (fun s => [.string s])) (hn : n = xs.length) (hm : n ≤ maxLen) : RdStrs w xs (.slice (some ⟨g, 0, none⟩) n n) :=
 rdSl_block (rd := RdStr) (sz := 1) h (fun s => [.string s]) (fun _ _ => (rfl : RdStr _ _)) (fun _ _ => rfl) hC hn (Nat.le_refl _) hm

set_option maxRecDepth 100000 in
set_option maxHeartbeats 1000000 in
theorem awake11_any (w : World) : Calls Try.prog 5 #[] w (Ret w (.bool true)) := by
 go_enter Try.func5, Try.ntmps5
 go_wp2_with fail
 refine (good11_any _).mono ?_
 rintro e w1 ⟨cx, rfl, hq, hb1⟩
 have H1 := Lib.hid (fun W (hw : Below w1.heap.size w1 W) => goodRight ▸ treeRight_any goodQ cx W (hq.below hw) goodOk)
 have H2 := Lib.hid (fun W (hw : Below w1.heap.size w1 W) => goodV ▸ vertices_any goodQ cx W (hq.below hw) (by decide))
 have H3 := Lib.hid (fun W (hw : Below w1.heap.size w1 W) => goodE ▸ edges_any goodQ cx W (hq.below hw) (by decide))
 have H4 := Lib.hid (fun W (hw : Below w1.heap.size w1 W) => treeSize_any goodQ cx W (hq.below hw) goodOk (by decide) (by
  intro p hp
  simp only [goodQ, List.mem_cons, List.not_mem_nil, or_false] at hp
  rcases hp with rfl | rfl <;> decide))
 have HB := Lib.hid hb1
 obtain ⟨v1, v2, v3, r1, r2, r3, rfl⟩ := hq
 obtain ⟨p1, c1, rfl, -, -⟩ := r1.shape
 obtain ⟨p2, c2, rfl, -, -⟩ := r2.shape
 obtain ⟨p3, c3, rfl, -, -⟩ := r3.shape
 clear r1 r2 r3 hb1
 go_wp2_with fail
 generalize hW1 : w1.alloc (.cells _ _) = W1
 have hx1 : W1.heap[w1.heap.size]? = some (.cells #[.slice p1 goodQ.pats.length c1, .slice p2 goodQ.conds.length c2, .slice p3 goodQ.ret.length c3, .int .i64 goodQ.range, .int .i64 goodQ.slide] 26 (0, 0)) := by rw [← hW1]; exact heap_new _ _
 have hs1 : W1.heap.size = w1.heap.size + 1 := by rw [← hW1]; simp
 have hB1 : Below w1.heap.size w1 W1 := by rw [← hW1]; exact (Below.refl _ _).alloc (Nat.le_refl _) _
 clear hW1
 refine (H1.out _ hB1).mono ?_
 rintro e w2 ⟨rfl, hb2⟩
 have C := Lib.hid (fun W (h : Below W1.heap.size W1 W) => (h.block w1.heap.size (by omega)).trans hx1)
 have e0 := cell_of_block (C.out w2 hb2) 0
 have e1 := cell_of_block (C.out w2 hb2) 1
 have e2 := cell_of_block (C.out w2 hb2) 2
 have e3 := cell_of_block (C.out w2 hb2) 3
 have e4 := cell_of_block (C.out w2 hb2) 4
 simp only [List.getElem?_toArray, List.getElem?_cons_zero, List.getElem?_cons_succ] at e0 e1 e2 e3 e4
 have HB2 := Lib.hid hb2; have HB1 := Lib.hid hB1; have HS1 := Lib.hid hs1
 clear hb2 hB1 hs1 hx1
 go_wp2_with fail
 refine (H2.out _ (below_step HB1.out HB2.out)).mono ?_
 rintro e w3 ⟨v, rfl, hv, hb3, -⟩
 obtain ⟨p, c, rfl, -, -⟩ := hv.shape
 have HV := Lib.hid hv; have HB3 := Lib.hid hb3
 clear hv hb3 e0 e1 e2 e3 e4
 go_wp2_with fail
 generalize hW4 : w3.alloc (.cells _ _) = W4
 have hb4 : Below w3.heap.size w3 W4 := by rw [← hW4]; exact (Below.refl _ _).alloc (Nat.le_refl _) _
 have hr4 : RdStrs W4 [b1 97, b1 98, b1 99] (.slice (some ⟨w3.heap.size, 0, none⟩) 3 3) := by
  rw [← hW4]; exact rdStrRow (heap_new _ _) rfl rfl (show 3 ≤ maxLen by unfold maxLen; omega)
 clear hW4
 refine ((all3 ▸ sameTexts_any _ _ _ _ W4 (HV.out.below hb4) hr4 : Calls _ _ _ _ (Ret W4 (.bool true)))).mono ?_
 rintro e w5 ⟨rfl, hb5⟩
 have hb5' := below_step HB2.out (below_step HB3.out (below_step hb4 hb5))
 have e0 := cell_of_block (C.out w5 hb5') 0
 have e1 := cell_of_block (C.out w5 hb5') 1
 have e2 := cell_of_block (C.out w5 hb5') 2
 have e3 := cell_of_block (C.out w5 hb5') 3
 have e4 := cell_of_block (C.out w5 hb5') 4
 simp only [List.getElem?_toArray, List.getElem?_cons_zero, List.getElem?_cons_succ] at e0 e1 e2 e3 e4
 have HB5 := Lib.hid hb5'
 clear hb4 hb5 hb5' hr4
 go_wp2_with fail
 refine (H3.out _ (below_step HB1.out HB5.out)).mono ?_
 rintro e w6 ⟨v6, rfl, hv6, hb6, -⟩
 obtain ⟨p6, c6, rfl, -, -⟩ := hv6.shape
 have HV6 := Lib.hid hv6; have HB6 := Lib.hid hb6
 clear hv6 hb6 e0 e1 e2 e3 e4
 go_wp2_with fail
 generalize hW7 : w6.alloc (.cells _ _) = W7
 have hb7 : Below w6.heap.size w6 W7 := by rw [← hW7]; exact (Below.refl _ _).alloc (Nat.le_refl _) _
 have hr7 : RdStrs W7 [b1 101] (.slice (some ⟨w6.heap.size, 0, none⟩) 1 1) := by
  rw [← hW7]; exact rdStrRow (heap_new _ _) rfl rfl (show 1 ≤ maxLen by unfold maxLen; omega)
 clear hW7
 refine ((all1 ▸ sameTexts_any _ _ _ _ W7 (HV6.out.below hb7) hr7 : Calls _ _ _ _ (Ret W7 (.bool true)))).mono ?_
 rintro e w8 ⟨rfl, hb8⟩
 have hb8' := below_step HB5.out (below_step HB6.out (below_step hb7 hb8))
 have e0 := cell_of_block (C.out w8 hb8') 0
 have e1 := cell_of_block (C.out w8 hb8') 1
 have e2 := cell_of_block (C.out w8 hb8') 2
 have e3 := cell_of_block (C.out w8 hb8') 3
 have e4 := cell_of_block (C.out w8 hb8') 4
 simp only [List.getElem?_toArray, List.getElem?_cons_zero, List.getElem?_cons_succ] at e0 e1 e2 e3 e4
 have HB8 := Lib.hid hb8'
 clear hb7 hb8 hb8' hr7
 go_wp2_with fail
 refine (H4.out _ (below_step HB1.out HB8.out)).mono ?_
 rintro e w9 ⟨rfl, hb9⟩
 rw [goodSize]
 have HB9 := Lib.hid hb9
 clear hb9 e0 e1 e2 e3 e4
 go_wp2_with fail
 go_ret
 exact ret_b rfl rfl (below_step HB.out (below_step HB1.out (below_step HB8.out HB9.out)))
end Go.Proofs.Ytldnlbcibmmbbaa

set_option linter.unusedSimpArgs false
set_option linter.unusedVariables false
namespace Go.Proofs.Ytldnlbcibmmbbaa
open Go.RowKit

theorem awake11_c : Call1 Try.prog 5 [] (.v (.bool true)) :=
 .of_ret (by kernel_rfl) rfl (fun D nu w vargs h => by
  obtain rfl := ras_nil h
  exact awake11_any w)
theorem size11_c (q : Qry) (hq : q.small) : Call1 Try.prog 4 [.agg (encQ q)] (.v (.int .i64 (szQ q : Nat))) :=
 .of_ret (by kernel_rfl) (by simp only [wfL, AV.wf, wf_encQ, Bool.and_self]) (fun D nu w vargs h => by
  obtain ⟨x, rfl, hx⟩ := ras_one h
  obtain ⟨cx, rfl, kx⟩ := ra_qry hx
  exact size11_any q cx w kx hq)

end Go.Proofs.Ytldnlbcibmmbbaa

namespace Go.Proofs.Ytldnlbcibmmbbaa
open Go.RowKit

theorem parts_sub (x : Ex) : ∀ y, y ∈ exParts x → (exParts y).length ≤ (exParts x).length := by
 induction x using Ex.ind with
 | h k s l ih =>
  intro y hy
  rw [exParts, exsParts_eq] at hy
  rcases List.mem_cons.1 hy with rfl | hy
  ·exact Nat.le_refl _
  ·obtain ⟨z, hz, hy⟩ := List.mem_flatMap.1 hy
   have h1 := ih z hz y hy
   have h2 := flat_mem_le exParts l z hz
   rw [exParts_kids]; omega
theorem kids_le (x : Ex) : x.kids.length ≤ (exParts x).length := by
 obtain ⟨k, s, l⟩ := x
 rw [exParts_kids]
 have := flat_len l
 simp only [Ex.kids]; omega
theorem ex_lens {x : Ex} {n : Nat} (h : (exParts x).length ≤ n) : x.lens n := fun y hy => by
 have h1 := parts_sub x y hy
 have h2 := kids_le y
 omega
theorem q_lens {q : Qry} (h : szQ q ≤ 400) : q.lens 1000000 := by
 obtain ⟨h1, h2⟩ := szQ_spec h
 exact ⟨by omega, by omega, by omega, fun p hp => ex_lens (by have := h2 p hp; omega)⟩

end Go.Proofs.Ytldnlbcibmmbbaa

namespace Go.Proofs.Ytldnlbcibmmbbaa
open Go.RowKit

end Go.Proofs.Ytldnlbcibmmbbaa
