/- A manifest laid over another. -/
import Derived.Test.YtijnomopcpgikaaDoorMfA
import Derived.Test.YtijnomopcpgikaaDoorLib
namespace Go.Proofs.YtijnomopcpgikaaDoor
open Go.RowKit

def Mf.cells (m : Mf) (A : Option Addr) (c : Nat) : Array Value := #[.slice A m.ps.length c, .int .i64 m.floor, .int .i64 m.done, .int .i64 m.log, .int .i64 m.next, .int .i64 m.now]
/-- A manifest is laid over the one at g. -/
def setM (w : World) (g : Nat) (m : Mf) (A : Option Addr) (c : Nat) : World := (((((w.setCell ⟨g, 0, none⟩ (.slice A m.ps.length c)).setCell ⟨g, 1, none⟩ (.int .i64 m.floor)).setCell ⟨g, 2, none⟩ (.int .i64 m.done)).setCell ⟨g, 3, none⟩ (.int .i64 m.log)).setCell ⟨g, 4, none⟩ (.int .i64 m.next)).setCell ⟨g, 5, none⟩ (.int .i64 m.now)
theorem setM_row {w : World} {g : Nat} {t : TypeId} {x0 x1 x2 x3 x4 x5 : Value} (h : Row w g t #[x0, x1, x2, x3, x4, x5]) (m : Mf) (A : Option Addr) (c : Nat) : Row (setM w g m A c) g t (m.cells A c) :=
  (((((h.put 0 _).put 1 _).put 2 _).put 3 _).put 4 _).put 5 _
theorem setM_away {w : World} {g g2 : Nat} {t : TypeId} {cs : Array Value} (h : Row w g2 t cs) (hne : g2 ≠ g) (m : Mf) (A : Option Addr) (c : Nat) : Row (setM w g m A c) g2 t cs :=
  (((((h.away hne _).away hne _).away hne _).away hne _).away hne _).away hne _
theorem setM_ext {w w1 : World} {g : Nat} (h : Ext w w1) (hg : w.heap.size ≤ g) (m : Mf) (A : Option Addr) (c : Nat) : Ext w (setM w1 g m A c) :=
  (((((h.setCell (p := ⟨g, 0, none⟩) hg _).setCell (p := ⟨g, 1, none⟩) hg _).setCell (p := ⟨g, 2, none⟩) hg _).setCell (p := ⟨g, 3, none⟩) hg _).setCell (p := ⟨g, 4, none⟩) hg _).setCell (p := ⟨g, 5, none⟩) hg _
end Go.Proofs.YtijnomopcpgikaaDoor
