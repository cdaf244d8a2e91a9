/- loggia/lz: the map of places. -/
import Derived.Test.YteofooecfedplaaLzB
import Derived.DeepKeys4
namespace Go.Proofs.Yteofooecfedplaa
open Go.RowKit Go.Maps

theorem laidOut : laidOutB Try.prog = true := by kernel_rfl
theorem K4 : Keyed Try.prog 54 := Keyed.of_law (deep_law_laid laidOut (m := 2) (by omega) (by decide) (by kernel_rfl) (by kernel_rfl))
/-- Four bytes as a key. -/
def keyV (x : List UInt8) : Value := .agg (x.map B8).toArray
theorem keyV_inj {x y : List UInt8} (h : keyV x = keyV y) : x = y := by
  unfold keyV at h
  injection h with h
  have h' : x.map B8 = y.map B8 := by simpa using h
  exact (List.map_inj_right (fun a b hab => by
    unfold B8 at hab
    injection hab with _ hab
    exact UInt8.toNat_inj.1 (by omega))).1 h'
theorem keyV_lit {x : List UInt8} (h : x.length = 4) : ∃ l, keyOf Try.prog 54 (keyV x) = some l := by
  match x, h with
  | [a, b, c, d], _ =>
    have ha := a.toNat_lt
    have hb := b.toNat_lt
    have hc := c.toNat_lt
    have hd := d.toNat_lt
    have wf : ∀ z : UInt8, (Lit.int .u8 (z.toNat : Int)).wf = true := fun z => by
      have := z.toNat_lt
      simp [Lit.wf, IntKind.min, IntKind.max, IntKind.signed, IntKind.bits]
      omega
    have hc4 : Try.prog.cellsOf 54 = 4 := by kernel_rfl
    have hc1 : Try.prog.cellsOf 5 = 1 := by kernel_rfl
    have one : ∀ (f : Nat) (z : UInt8), Try.prog.keyLits (f + 1) 5 [B8 z] = some [.int .u8 z.toNat] := fun f z => by
      unfold Program.keyLits
      rw [Try.underlying5]
      simp [B8, wf]
    have h1 : ∀ f, Try.prog.keyLits (f + 2) 54 [B8 a, B8 b, B8 c, B8 d] = some [.int .u8 a.toNat, .int .u8 b.toNat, .int .u8 c.toNat, .int .u8 d.toNat] := fun f => by
      unfold Program.keyLits
      rw [Try.underlying54]
      simp [hc4, hc1, one, List.range_succ]
    refine ⟨.string (keyBytes [.int .u8 a.toNat, .int .u8 b.toNat, .int .u8 c.toNat, .int .u8 d.toNat]), ?_⟩
    unfold keyOf
    rw [Try.underlying54]
    have hk : Try.prog.keyType 54 = true := by kernel_rfl
    have hf : (keyV [a, b, c, d]).formed Try.prog 54 = true := by simp [Value.formed, keyV, Try.underlying54, hc4]
    have hs : Try.prog.types.size + 1 = 79 + 2 := by rw [show Try.prog.types.size = 80 from Try.types_size]
    dsimp only
    rw [hk, hf, hs]
    have : (keyV [a, b, c, d]).cells.toList = [B8 a, B8 b, B8 c, B8 d] := rfl
    rw [this, h1]
    rfl
end Go.Proofs.Yteofooecfedplaa
