/- Bytes that came in, to be read. -/
import Derived.Test.YtijnomopcpgikaaDoorCome
import Derived.Test.YtijnomopcpgikaaDoorVaC
namespace Go.Proofs.YtijnomopcpgikaaDoor
open Go.ChangeShapes Go.WideShapes Go.ChangeAt Go.RowKit

set_option maxRecDepth 100000 in
theorem open_in8 {H : Type} {enc : TypeId × Value → H} {w : World} {r : Go.Reach} {base base' : Nat} {t e : TypeId} {fuel : Nat} {a : Option Addr} {len cap : Nat} {x : DataW H × List MemPlace} {spare : Nat → Bool} {held : Bool}
    (ht : Tryd.prog.underlying t = some (.slice e)) (he : Tryd.prog.underlying e = some (.int .u8)) (hc : Tryd.prog.cellsOf e = 1) (hv : Value.okWide Tryd.prog w r base t (.slice a len cap))
    (h : DataW.trod enc Tryd.prog w base' spare held fuel t (Value.slice a len cap).cells.toList = some x) : ∃ l, In8 w a len cap l := by
  obtain ⟨l, hl⟩ := open_bytes ht he hc hv h
  refine ⟨l, hl.len, hl.bytes, hl.cap, fun ha => ?_, fun y hy => ?_⟩
  · subst ha
    rcases open_ints ht he hc h with ⟨hcs, _⟩ | ⟨y, m, c, zs, hcs, _⟩
    · simp [Value.cells] at hcs
      exact hcs.2
    · simp [Value.cells] at hcs
  · subst hy
    exact slice_has ht hv
end Go.Proofs.YtijnomopcpgikaaDoor
