/- api.Part: are two alike? -/
import Derived.Test.YtijnomopcpgikaaDoorMfF
import Derived.Laws.StructEq
namespace Go.Proofs.YtijnomopcpgikaaDoor
open Go.RowKit

set_option maxRecDepth 100000 in
set_option maxHeartbeats 2000000 in
theorem part_neq (p q : Pt) (W : World) : (binOp .neq 40 p.val q.val).run Tryd.prog W = .ok (.bool (!(p.id == q.id && p.st == q.st && p.lo == q.lo && p.hi == q.hi && p.fi == q.fi && p.la == q.la && p.n == q.n))) W := by
  unfold Pt.val
  rw [run_neq_struct, run_equalIn_agg _ _ _ _ _ (by kernel_rfl) (by kernel_rfl)]
  simp only [Program.fieldsOf, Tryd.underlying40]
  have e1 : ∀ (a b : Int) (W : World), (Op.equalIn 9999 3 (.int .i64 a) (.int .i64 b)).run Tryd.prog W = .ok (a == b) W := fun a b W => run_equalIn_int W 9998 3 .i64 .i64 a b Tryd.underlying3
  have e2 : ∀ (a b : Int) (W : World), (Op.equalIn 9999 38 (.int .i64 a) (.int .i64 b)).run Tryd.prog W = .ok (a == b) W := fun a b W => run_equalIn_int W 9998 38 .i64 .i64 a b Tryd.underlying38
  simp [Op.eqFields, part, e1, e2, go_sem]
  by_cases h1 : p.id = q.id <;> by_cases h2 : p.st = q.st <;> by_cases h3 : p.lo = q.lo <;> by_cases h4 : p.hi = q.hi <;> by_cases h5 : p.fi = q.fi <;> by_cases h6 : p.la = q.la <;> by_cases h7 : p.n = q.n
  all_goals simp [h1, h2, h3, h4, h5, h6, h7]
theorem part_ne (p q : Pt) (W : World) : (binOp .neq 40 p.val q.val).run Tryd.prog W = .ok (.bool (!decide (p = q))) W := by
  have h : decide (p = q) = (p.id == q.id && p.st == q.st && p.lo == q.lo && p.hi == q.hi && p.fi == q.fi && p.la == q.la && p.n == q.n) := by
    rw [Bool.eq_iff_iff]
    cases p
    cases q
    simp [and_assoc]
  rw [h]
  exact part_neq p q W
def sameP (a b : Mf) : Bool := decide (a.floor = b.floor) && decide (a.done = b.done) && decide (a.log = b.log) && decide (a.next = b.next) && decide (a.now = b.now) && decide (a.ps = b.ps)
end Go.Proofs.YtijnomopcpgikaaDoor
