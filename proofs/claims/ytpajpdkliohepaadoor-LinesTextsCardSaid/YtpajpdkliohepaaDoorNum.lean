/- Numbers as the library reads and writes them: the tables and the errors of the library, out of a row's condition; strconv.Atoi, strconv.Itoa. -/
import Derived.Test.YtpajpdkliohepaaDoorByt
import Derived.Test.YtpajpdkliohepaaDoorShelf
import Derived.Stop.LaidErr
import Derived.Lib.LaidTab
import Derived.WalkSmall
import Derived.LaidLaws
import Derived.Lib.QuietBelow
namespace Go.Proofs.YtpajpdkliohepaaDoor
open Go.RowKit Go.ChangeShapes

/-- The cells of the two errors that Atoi may wrap hold interface values. -/
structure Errs (w : World) : Prop where
  a : ∃ ev, w.cell? ⟨1, 0, none⟩ = some ev ∧ (ev = .nilIface ∨ ∃ te pe, ev = .iface te pe)
  b : ∃ ev, w.cell? ⟨2, 0, none⟩ = some ev ∧ (ev = .nilIface ∨ ∃ te pe, ev = .iface te pe)
theorem Errs.ext {w w' : World} (h : Errs w) (hE : Ext w w') : Errs w' := by
  obtain ⟨⟨ev, h1, h2⟩, ⟨ev2, h3, h4⟩⟩ := h
  exact ⟨⟨ev, hE.cell h1, h2⟩, ⟨ev2, hE.cell h3, h4⟩⟩
def AtoiP (w : World) (s : List UInt8) (e : Ending) (w' : World) : Prop := Ext w w' ∧ ((∃ v, e = .returned (.tuple #[.int .i64 v, .nilIface]) ∧ Lib.atoiAll s = .ok v) ∨ (∃ v t p, e = .returned (.tuple #[.int .i64 v, .iface t p]) ∧ ∀ v, Lib.atoiAll s ≠ .ok v))
theorem atoi_any (s : List UInt8) (w : World) (hl : s.length ≤ 281474976710656) (h : Errs w) : Calls Tryd.prog 31 #[.string ⟨s.toArray⟩] w fun e w' => AtoiP w s e w' := by
  have hsz : (⟨s.toArray⟩ : ByteArray).size = s.length := ByteArray.size_mk_toArray s
  obtain ⟨⟨ev, h1, h2⟩, ⟨ev2, h3, h4⟩⟩ := h
  cases hc : Lib.atoiAll s
  case ok v =>
    refine (Tryd.strconv_Atoi_ok ⟨s.toArray⟩ (by rw [hsz]; omega) v hc w).mono fun e w' ⟨he, hw⟩ => ⟨?_, .inl ⟨v, he, hc⟩⟩
    rcases hw with rfl | ⟨t, rfl⟩
    · exact Ext.refl _
    · unfold Lib.bytesWorld
      rw [show w.heap.size = w.drew.heap.size from rfl, freeze_new]
      exact (Ext.refl w).drew.alloc _
  case range =>
    exact (Tryd.strconv_Atoi_range ⟨s.toArray⟩ (by rw [hsz]; omega) hc ev2 w h3 h4).mono fun e w' ⟨N, he, _, _, hb⟩ => ⟨hb, .inr ⟨_, _, _, he, fun v h => by rw [hc] at h; cases h⟩⟩
  all_goals exact (Any.strconv_Atoi_syntax Tryd.laysC172 ⟨s.toArray⟩ (by rw [hsz]; omega) hc ev w h1 h2).mono fun e w' ⟨N, he, _, _, hb⟩ => ⟨hb, .inr ⟨0, _, _, he, fun v h => by rw [hc] at h; cases h⟩⟩
theorem Tryd.gSyn : Tryd.prog.globalNamed "strconv.ErrSyntax" = some 1 := by kernel_rfl
theorem Tryd.gRan : Tryd.prog.globalNamed "strconv.ErrRange" = some 2 := by kernel_rfl
theorem Tryd.gPow : Tryd.prog.globalNamed "internal/strconv.uint64pow10" = some 3 := by kernel_rfl
theorem Tryd.gSynT : (Tryd.prog.globals[1]?).map (·.type) = some 59 := by kernel_rfl
theorem Tryd.gRanT : (Tryd.prog.globals[2]?).map (·.type) = some 59 := by kernel_rfl
theorem Tryd.gPowT : (Tryd.prog.globals[3]?).map (·.type) = some 124 := by kernel_rfl
theorem Tryd.starE : "*" ++ "errors.errorString" = "*errors.errorString" := by decide
theorem Tryd.rowErr (u : TypeId) (h : Tryd.prog.typeName? 3 u = some "*errors.errorString") : u = 131 :=
  typeName_ptr_named (nm := "errors.errorString") (by rw [Tryd.starE]; kernel_rfl) (by kernel_rfl) (by decide) u (by rw [Tryd.starE]; exact h)
/-- The table of the powers of ten lies as the text of the library lays it. -/
def Tabs (w : World) : Prop := Lib.TabIs Tryd.prog w "internal/strconv.uint64pow10" .u64 Lib.pow10Tab
theorem Tabs.ext {w w1 : World} (h : Tabs w) (hE : Ext w w1) : Tabs w1 := by
  have hlt : 3 < w.heap.size := by
    have hv : w.var? Tryd.prog "internal/strconv.uint64pow10" = some _ := h
    have := World.var?_cell Tryd.gPow hv 0
    exact World.block_lt_of_cell? w ⟨3, 0, none⟩ (u := .int .u64 1) (by simpa [Lib.pow10Tab] using this)
  exact var?_below hE Tryd.gPow hlt h
set_option maxRecDepth 100000 in
theorem tabs_of {W : World} {rest : List (String × DataW Unit)} (h : laidMet Tryd.prog (("internal/strconv.uint64pow10", Lib.tabData .u64 Lib.pow10Tab) :: rest) W) : Tabs W :=
  Lib.tabIs_of_head Tryd.gPow Tryd.gPowT Tryd.underlying124 Tryd.underlying87 (by kernel_rfl) (by kernel_rfl) h
theorem itoa_any (n : Int) (h0 : -9223372036854775808 ≤ n) (h1 : n ≤ 9223372036854775807) (w : World) (ht : Tabs w) : Calls Tryd.prog 26 #[.int .i64 n] w fun e w' => e = .returned (.string ⟨(Lib.itoa n).toArray⟩) ∧ Ext w w' :=
  (Tryd.strconv_Itoa n h0 h1 w ht).mono fun e w' ⟨he, k, os, hw⟩ => ⟨he, by rw [hw]; exact ((Ext.refl w).drewN k).trans (show Ext (w.drewN k) (Sort.grow (redrawn (w.drewN k) (w.drewN k).drawn) os) from below_regrown (w.drewN k) (w.drewN k).drawn os)⟩
set_option maxRecDepth 100000 in
theorem errs_of {W : World} {t1 t2 : List UInt8} {r1 r2 : List (String × DataW Unit)} (h1 : laidMet Tryd.prog (("strconv.ErrSyntax", .iface "*errors.errorString" (.ptr (.agg [.lit (.string t1)]))) :: r1) W)
    (h2 : laidMet Tryd.prog (("strconv.ErrRange", .iface "*errors.errorString" (.ptr (.agg [.lit (.string t2)]))) :: r2) W) : Errs W := by
  obtain ⟨a0, _, hv0, _, _, _⟩ := laid_sentinel h1 Tryd.gSyn Tryd.gSynT Tryd.underlying59 Tryd.rowErr Tryd.underlying131 Tryd.underlying133 rfl rfl Tryd.underlying9 (by kernel_rfl) (by kernel_rfl)
  obtain ⟨a1, _, hv1, _, _, _⟩ := laid_sentinel h2 Tryd.gRan Tryd.gRanT Tryd.underlying59 Tryd.rowErr Tryd.underlying131 Tryd.underlying133 rfl rfl Tryd.underlying9 (by kernel_rfl) (by kernel_rfl)
  exact ⟨⟨_, by simpa using World.var?_cell Tryd.gSyn hv0 0, .inr ⟨_, _, rfl⟩⟩, ⟨_, by simpa using World.var?_cell Tryd.gRan hv1 0, .inr ⟨_, _, rfl⟩⟩⟩
end Go.Proofs.YtpajpdkliohepaaDoor
