/-
  '==' and '!=' on two Stats that are one.
-/
import Derived.Test.YtkkpcdpoldjmkaaSlS
import Derived.Test.YtkkpcdpoldjmkaaVSl
namespace Go.Proofs.Ytkkpcdpoldjmkaa.Stats
open Go.RowKit ValMath Vals Sl
theorem guard_stat (op : BinOp) (x y : Operand) (a b : Array Value) (W : World) : (eqGuard op 58 x y (.agg a) (.agg b)).run Try.prog W = .ok () W :=
  run_eqGuard_agg W op 58 x y a b (by kernel_rfl)
theorem equal_self (d : Nat) (u : Val) (W : World) : (Op.equalIn (d + 2) 52 (.agg #[.int .i64 u.k, .int .i64 u.i, .bool u.b, .string u.s]) (.agg #[.int .i64 u.k, .int .i64 u.i, .bool u.b, .string u.s])).run Try.prog W = .ok true W := by
  rw [equal_val]; simp
theorem equal_stat (d : Nat) (c n : Int) (mn mx : Val) (W : World) : (Op.equalIn (d + 3) 58 (sagg c n mn mx) (sagg c n mn mx)).run Try.prog W = .ok true W := by
  have h1 := equal_self d mn W
  have h2 := equal_self d mx W
  rw [run_equalIn_struct W (d + 2) 58 _ _ (by kernel_rfl) (by kernel_rfl)]
  go_simp
theorem eql_stat (c n : Int) (mn mx : Val) (W : World) : (binOp .eql 58 (sagg c n mn mx) (sagg c n mn mx)).run Try.prog W = .ok (.bool true) W := by
  rw [run_eql_struct, equal_stat 9997]; rfl
theorem neq_stat (c n : Int) (mn mx : Val) (W : World) : (binOp .neq 58 (sagg c n mn mx) (sagg c n mn mx)).run Try.prog W = .ok (.bool false) W := by
  rw [run_neq_struct, equal_stat 9997]; rfl
theorem field_n (c n : Int) (mn mx : Val) (w : World) : (Instr.field 58 (sagg c n mn mx) 1).run Try.prog w = .ok (.int .i64 n) w := by kernel_rfl
end Go.Proofs.Ytkkpcdpoldjmkaa.Stats
