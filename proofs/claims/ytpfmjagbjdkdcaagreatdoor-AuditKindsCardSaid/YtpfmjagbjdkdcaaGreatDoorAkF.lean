/- Rows of nine numbers are equal to themselves. -/
import Derived.Test.YtpfmjagbjdkdcaaGreatDoorAkA
set_option linter.unusedSimpArgs false
set_option linter.unusedVariables false
namespace Go.Proofs.YtpfmjagbjdkdcaaGreatDoor
open Go.RowKit

theorem part_int (xs : Array Value) (o : Nat) (v : Value) (h : xs[o]? = some v) (w : World) : (part 3 xs o).run Tryz.prog w = .ok v w := by
  simp [part, Sem.run_bind, run_underlying Tryz.underlying3, Result.andThen_ok, h]
theorem eq9 (d : Nat) (q0 q1 q2 q3 q4 q5 q6 q7 q8 : Int) (w : World) : (Op.equalIn (d + 2) 23 (.agg #[.int .i64 q0, .int .i64 q1, .int .i64 q2, .int .i64 q3, .int .i64 q4, .int .i64 q5, .int .i64 q6, .int .i64 q7, .int .i64 q8])
    (.agg #[.int .i64 q0, .int .i64 q1, .int .i64 q2, .int .i64 q3, .int .i64 q4, .int .i64 q5, .int .i64 q6, .int .i64 q7, .int .i64 q8])).run Tryz.prog w = .ok true w := by
  rw [Op.equalIn]
  simp only [Sem.run_bind, run_underlying Tryz.underlying23, Result.andThen_ok, Tryz.sizeOf3]
  simp only [Std.Legacy.Range.forIn_eq_forIn_range', List.range', Std.Legacy.Range.size]
  simp [Sem.run_bind, part_int, run_equalIn_int, Tryz.underlying3, Result.andThen_ok, List.range']
end Go.Proofs.YtpfmjagbjdkdcaaGreatDoor
