/- '==' and '!=' on the plain structs: cell by cell. -/
import Derived.Test.YtokoneddljheaaaProg
import Derived.Test.YtokoneddljheaaaABase
namespace Go.Proofs.Ytokoneddljheaaa
open Go.RowKit

set_option maxRecDepth 100000 in
set_option maxHeartbeats 1000000 in
theorem equalIn_val (x y : Val) (w : World) (d : Nat) : (Op.equalIn (d + 2) 72 (.agg #[.int .i64 x.kind, .int .i64 x.num, .string x.text]) (.agg #[.int .i64 y.kind, .int .i64 y.num, .string y.text])).run Try.prog w = .ok (x.eqb y) w := by
  unfold Val.eqb
  cases h1 : x.kind == y.kind <;> cases h2 : x.num == y.num <;> cases h3 : x.text.toList == y.text.toList <;> simp only [Bool.and_true, Bool.and_false] <;> go_simp

set_option maxRecDepth 100000 in
set_option maxHeartbeats 1000000 in
theorem equalIn_opd (x y : Opd) (w : World) (d : Nat) : (Op.equalIn (d + 3) 74
    (.agg #[.int .i64 x.kind, .string x.name, .string x.key, .int .i64 x.val.kind, .int .i64 x.val.num, .string x.val.text])
    (.agg #[.int .i64 y.kind, .string y.name, .string y.key, .int .i64 y.val.kind, .int .i64 y.val.num, .string y.val.text])).run Try.prog w = .ok (x.eqb y) w := by
  have hv := fun w => equalIn_val x.val y.val w d
  unfold Opd.eqb
  cases h1 : x.kind == y.kind <;> cases h2 : x.name.toList == y.name.toList <;> cases h3 : x.key.toList == y.key.toList <;> cases h4 : x.val.eqb y.val <;> rw [h4] at hv <;> simp only [Bool.and_true, Bool.and_false] <;> go_simp

theorem eql_opd (x y : Opd) (w : World) : (binOp .eql 74
    (.agg #[.int .i64 x.kind, .string x.name, .string x.key, .int .i64 x.val.kind, .int .i64 x.val.num, .string x.val.text])
    (.agg #[.int .i64 y.kind, .string y.name, .string y.key, .int .i64 y.val.kind, .int .i64 y.val.num, .string y.val.text])).run Try.prog w = .ok (.bool (x.eqb y)) w := by
  rw [run_eql_struct, equalIn_opd x y w 9997]; rfl
end Go.Proofs.Ytokoneddljheaaa
