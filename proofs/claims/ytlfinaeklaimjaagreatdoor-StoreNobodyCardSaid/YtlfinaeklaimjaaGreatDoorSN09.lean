/- Texts of one proof, joined. -/
import Derived.Test.YtlfinaeklaimjaaGreatDoorSN07
import Derived.KernelRfl
import Derived.Stop.LaidErr
import Derived.LaidLaws
import Derived.Test.YtlfinaeklaimjaaGreatDoorProg
set_option linter.unusedSimpArgs false
set_option linter.unusedVariables false
namespace Go.Proofs.YtlfinaeklaimjaaGreatDoor
noncomputable section
end
end Go.Proofs.YtlfinaeklaimjaaGreatDoor
namespace Go.Proofs.YtlfinaeklaimjaaGreatDoor.Am
noncomputable section
open Go.Proofs.YtlfinaeklaimjaaGreatDoor Go.RowKit
def Syn (w : World) : Prop := ∃ t fz b o, w.heap[1]? = some (.cells #[.iface 461 (.pointer (some ⟨b, o, none⟩))] t fz)
def hSyn (t : TypeId) (fz : Nat × Nat) : HT AObj := HT.set 64 .nil 1 (some (.cells [.iface 461 (.pointer (some ⟨1 + 1, 0, none⟩))] t fz 0))
def fSyn (b o : Nat) (a : Option Addr) : Ren := fun k => if k = 1 then some ⟨1, 0, none⟩ else if k = 1 + 1 then some ⟨b, o, none⟩ else
  if k = 1 + 2 then a.map (fun a => ⟨a.block, a.off, none⟩) else none
theorem wrSyn {w : World} {t : TypeId} {fz : Nat × Nat} {b o : Nat} (a : Option Addr) (hc : w.heap[1]? = some (.cells #[.iface 461 (.pointer (some ⟨b, o, none⟩))] t fz)) :
    WR w.heap.size (1 + 1) (fSyn b o a) ⟨hSyn t fz, 1 + 3⟩ w := by
  have hget : ∀ k, (hSyn t fz).get k = if k = 1 then some (.cells [.iface 461 (.pointer (some ⟨1 + 1, 0, none⟩))] t fz 0) else none := fun k => by
    unfold hSyn
    rw [HT.get_set 64 .nil _ k _ (by decide)]
    split
    · rfl
    · exact HT.get_nil k
  have live : ∀ k x, (hSyn t fz).get k = some x → k = 1 ∧ x = .cells [.iface 461 (.pointer (some ⟨1 + 1, 0, none⟩))] t fz 0 := fun k x hk => by
    rw [hget] at hk
    split at hk
    · rename_i e
      cases hk
      exact ⟨e, rfl⟩
    · cases hk
  refine ⟨fun k x hk => ?_, fun k1 k2 o1 o2 l1 l2 h1 h2 _ _ _ => ?_, fun k x l hk _ hg => ?_, fun k x hk => ?_, fun k hk => ?_, fun k x hk _ => ?_, (by decide : 1 + 1 ≤ 1 + 3), Nat.le_refl _, (by decide : 1 + 3 < 10000000000)⟩
  · obtain ⟨rfl, rfl⟩ := live k x hk
    refine ⟨_, if_pos rfl, .hard hc ?_⟩
    exact .cons (.iface _ (.ptr ⟨⟨b, o, none⟩, by simp [fSyn], by simp⟩)) (.nil _)
  · rw [(live k1 o1 h1).1, (live k2 o2 h2).1]
  · have := (live k x hk).1
    omega
  · have := (live k x hk).1
    show k < 1 + 3
    omega
  · have hk : 1 + 3 ≤ k := hk
    unfold fSyn
    rw [if_neg (by omega), if_neg (by omega), if_neg (by omega)]
  · obtain ⟨rfl, rfl⟩ := live k x hk
    exact if_pos rfl
theorem Syn.lt {w : World} (h : Syn w) : 1 < w.heap.size := by
  obtain ⟨t, fz, b, o, hc⟩ := h
  exact (Array.getElem?_eq_some_iff.1 hc).1
theorem Syn.ext {w w' : World} (h : Syn w) (hE : Ext w w') : Syn w' := by
  obtain ⟨t, fz, b, o, hc⟩ := h
  exact ⟨t, fz, b, o, (Below.block hE _ (Array.getElem?_eq_some_iff.1 hc).1).trans hc⟩
theorem Tryz.gSyn : Tryz.prog.globalNamed "strconv.ErrSyntax" = some 1 := by kernel_rfl
theorem Tryz.gSynT : (Tryz.prog.globals[1]?).map (·.type) = some 285 := by kernel_rfl
theorem Tryz.starE : "*" ++ "errors.errorString" = "*errors.errorString" := by decide
theorem Tryz.rowErr (u : TypeId) (h : Tryz.prog.typeName? 3 u = some "*errors.errorString") : u = 461 :=
  typeName_ptr_named (nm := "errors.errorString") (by rw [Tryz.starE]; kernel_rfl) (by kernel_rfl) (by decide) u (by rw [Tryz.starE]; exact h)
set_option maxRecDepth 100000 in
theorem syn_of {W : World} {t1 : List UInt8} {r1 : List (String × DataW Unit)} (h1 : laidMet Tryz.prog (("strconv.ErrSyntax", .iface "*errors.errorString" (.ptr (.agg [.lit (.string t1)]))) :: r1) W) : Syn W := by
  obtain ⟨a0, _, hv0, hc, _, _⟩ := laid_sentinel h1 Tryz.gSyn Tryz.gSynT Tryz.underlying285 Tryz.rowErr Tryz.underlying461 Tryz.underlying463 rfl rfl Tryz.underlying9 (by kernel_rfl) (by kernel_rfl)
  have hs := World.cell?_spot hc
  obtain ⟨b, o, s⟩ := a0
  obtain rfl : s = none := hs
  unfold World.var? at hv0
  rw [Tryz.gSyn] at hv0
  simp only [Option.bind_some] at hv0
  split at hv0
  · rename_i cs t fz hh
    cases hv0
    exact ⟨t, fz, b, o, hh⟩
  · cases hv0
end
end Go.Proofs.YtlfinaeklaimjaaGreatDoor.Am
namespace Go.Proofs.YtlfinaeklaimjaaGreatDoor
noncomputable section
end
end Go.Proofs.YtlfinaeklaimjaaGreatDoor
