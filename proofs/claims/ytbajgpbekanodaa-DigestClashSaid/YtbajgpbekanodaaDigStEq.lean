/- What '==' says of two states that are one. -/
import Derived.Test.YtbajgpbekanodaaDigSum
import Derived.Laws.StructEq
namespace Go.Proofs.Ytbajgpbekanodaa
open Go.RowKit

theorem equal_eight (a b c d e f g i : Nat) (w : World) : (Op.equalIn 10000 90 (.agg #[.int .u32 (a : Int), .int .u32 (b : Int), .int .u32 (c : Int), .int .u32 (d : Int), .int .u32 (e : Int), .int .u32 (f : Int), .int .u32 (g : Int), .int .u32 (i : Int)]) (.agg #[.int .u32 (a : Int), .int .u32 (b : Int), .int .u32 (c : Int), .int .u32 (d : Int), .int .u32 (e : Int), .int .u32 (f : Int), .int .u32 (g : Int), .int .u32 (i : Int)])).run Try.prog w = .ok true w := by
  have u3 := Try.underlying88
  have a3 := Try.isAgg88
  have z3 := Try.sizeOf88
  rw [show (10000 : Nat) = 9999 + 1 from rfl, Op.equalIn]
  simp only [Sem.run_bind, run_underlying Try.underlying90, Result.andThen_ok]
  simp only [Std.Legacy.Range.forIn_eq_forIn_range', Std.Legacy.Range.size, Nat.sub_zero, Nat.add_sub_cancel, Nat.div_one, List.range'_succ, List.range'_zero, List.forIn_cons, List.forIn_nil]
  go_simp
theorem equal_words (v : Sha.St) (w : World) : (Op.equalIn 10000 90 (.agg (cel v.list)) (.agg (cel v.list))).run Try.prog w = .ok true w := by
  obtain ⟨a, b, c, d, e, f, g, i⟩ := v
  exact equal_eight a b c d e f g i w
theorem guard_words : Try.prog.eqGuardType Try.prog.depth 90 = false := by kernel_rfl
end Go.Proofs.Ytbajgpbekanodaa
