/- '==' and '!=' on the plain structs: cell by cell. -/
import Derived.Test.YtldnlbcibmmbbaaProg
import Derived.Test.YtldnlbcibmmbbaaRBase
namespace Go.Proofs.Ytldnlbcibmmbbaa
open Go.RowKit

set_option maxRecDepth 100000 in
set_option maxHeartbeats 1000000 in
theorem equalIn_val (x y : Val) (w : World) (d : Nat) : (Op.equalIn (d + 2) 62 (.agg #[.int .i64 x.kind, .int .i64 x.num, .string x.text]) (.agg #[.int .i64 y.kind, .int .i64 y.num, .string y.text])).run Try.prog w = .ok (x.eqb y) w := by
 unfold Val.eqb
 cases h1 : x.kind == y.kind <;> cases h2 : x.num == y.num <;> cases h3 : x.text.toList == y.text.toList <;> simp only [Bool.and_true, Bool.and_false] <;> go_simp

set_option maxRecDepth 100000 in
set_option maxHeartbeats 1000000 in
theorem equalIn_opd (x y : Opd) (w : World) (d : Nat) : (Op.equalIn (d + 3) 64
  (.agg #[.int .i64 x.kind, .string x.name, .string x.key, .int .i64 x.val.kind, .int .i64 x.val.num, .string x.val.text])
  (.agg #[.int .i64 y.kind, .string y.name, .string y.key, .int .i64 y.val.kind, .int .i64 y.val.num, .string y.val.text])).run Try.prog w = .ok (x.eqb y) w := by
 have hv := fun w => equalIn_val x.val y.val w d
 unfold Opd.eqb
 cases h1 : x.kind == y.kind <;> cases h2 : x.name.toList == y.name.toList <;> cases h3 : x.key.toList == y.key.toList <;> cases h4 : x.val.eqb y.val <;> rw [h4] at hv <;> simp only [Bool.and_true, Bool.and_false] <;> go_simp

set_option maxRecDepth 100000 in
set_option maxHeartbeats 1000000 in
theorem equalIn_cnd (x y : Cnd) (w : World) (d : Nat) : (Op.equalIn (d + 4) 71 (.agg #[.int .i64 x.op, .int .i64 x.left.kind, .string x.left.name, .string x.left.key, .int .i64 x.left.val.kind, .int .i64 x.left.val.num, .string x.left.val.text,
      .int .i64 x.right.kind, .string x.right.name, .string x.right.key, .int .i64 x.right.val.kind, .int .i64 x.right.val.num, .string x.right.val.text])
  (.agg #[.int .i64 y.op, .int .i64 y.left.kind, .string y.left.name, .string y.left.key, .int .i64 y.left.val.kind, .int .i64 y.left.val.num, .string y.left.val.text,
   .int .i64 y.right.kind, .string y.right.name, .string y.right.key, .int .i64 y.right.val.kind, .int .i64 y.right.val.num, .string y.right.val.text])).run Try.prog w = .ok (x.eqb y) w := by
 have h2 := fun w => equalIn_opd x.left y.left w d
 have h3 := fun w => equalIn_opd x.right y.right w d
 unfold Cnd.eqb
 cases h1 : x.op == y.op <;> cases h4 : x.left.eqb y.left <;> cases h5 : x.right.eqb y.right <;> rw [h4] at h2 <;> rw [h5] at h3 <;> simp only [Bool.and_true, Bool.and_false] <;> go_simp

theorem neq_cnd (x y : Cnd) (w : World) : (binOp .neq 71 (.agg #[.int .i64 x.op, .int .i64 x.left.kind, .string x.left.name, .string x.left.key, .int .i64 x.left.val.kind, .int .i64 x.left.val.num, .string x.left.val.text,
      .int .i64 x.right.kind, .string x.right.name, .string x.right.key, .int .i64 x.right.val.kind, .int .i64 x.right.val.num, .string x.right.val.text])
  (.agg #[.int .i64 y.op, .int .i64 y.left.kind, .string y.left.name, .string y.left.key, .int .i64 y.left.val.kind, .int .i64 y.left.val.num, .string y.left.val.text,
   .int .i64 y.right.kind, .string y.right.name, .string y.right.key, .int .i64 y.right.val.kind, .int .i64 y.right.val.num, .string y.right.val.text])).run Try.prog w = .ok (.bool (!(x.eqb y))) w := by
 rw [run_neq_struct, equalIn_cnd x y w 9996]; rfl

theorem neq_opd (x y : Opd) (w : World) : (binOp .neq 64
  (.agg #[.int .i64 x.kind, .string x.name, .string x.key, .int .i64 x.val.kind, .int .i64 x.val.num, .string x.val.text])
  (.agg #[.int .i64 y.kind, .string y.name, .string y.key, .int .i64 y.val.kind, .int .i64 y.val.num, .string y.val.text])).run Try.prog w = .ok (.bool (!(x.eqb y))) w := by
 rw [run_neq_struct, equalIn_opd x y w 9997]; rfl
theorem eql_opd (x y : Opd) (w : World) : (binOp .eql 64
  (.agg #[.int .i64 x.kind, .string x.name, .string x.key, .int .i64 x.val.kind, .int .i64 x.val.num, .string x.val.text])
  (.agg #[.int .i64 y.kind, .string y.name, .string y.key, .int .i64 y.val.kind, .int .i64 y.val.num, .string y.val.text])).run Try.prog w = .ok (.bool (x.eqb y)) w := by
 rw [run_eql_struct, equalIn_opd x y w 9997]; rfl
end Go.Proofs.Ytldnlbcibmmbbaa
