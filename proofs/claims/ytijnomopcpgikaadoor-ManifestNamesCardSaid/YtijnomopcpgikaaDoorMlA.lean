/- Encode and Decode as values; what stands ahead in the laws. -/
import Derived.Test.YtijnomopcpgikaaDoorMdG
import Derived.Test.YtijnomopcpgikaaDoorMfJ
import Derived.Test.YtijnomopcpgikaaDoorMfL
namespace Go.Proofs.YtijnomopcpgikaaDoor
open Go.RowKit

def encV (m : Mf) : List UInt8 := if checkP m = 0 then encM m else []
def EncW (w : World) (m : Mf) (e : Ending) (w' : World) : Prop := ∃ A c, e = .returned (.tuple #[.slice A (encV m).length c, .int .i64 (checkP m)]) ∧ In8 w' A (encV m).length c (encV m) ∧ Ext w w'
theorem EncP.val {w w' : World} {m : Mf} {e : Ending} (h : EncP w m e w') : EncW w m e w' := by
  obtain ⟨hE, h1, h2⟩ := h
  unfold EncW encV
  by_cases hc : checkP m = 0
  · obtain ⟨A, c, rfl, hb⟩ := h1 hc
    rw [if_pos hc, hc]
    exact ⟨A, c, rfl, hb.in8, hE⟩
  · rw [if_neg hc]
    exact ⟨none, 0, h2 hc, ⟨rfl, .inl rfl, Nat.le_refl _, fun _ => rfl, nofun⟩, hE⟩
def decF (l : List UInt8) : Mf := (decM l).getD nilMf
def decC (l : List UInt8) : Nat := if (decM l).isSome then 0 else 160
theorem nilMf_ok (w : World) (base : Nat) : nilMf.Ok w base none 0 :=
  ⟨⟨rfl, .inl rfl, nofun, Nat.le_refl _, by show 0 ≤ _; omega, nofun⟩, by unfold I64ok; decide, by unfold I64ok; decide, by unfold I64ok; decide, by unfold I64ok; decide, by unfold I64ok; decide⟩
def DecW (w : World) (l : List UInt8) (e : Ending) (w' : World) : Prop := ∃ A c, e = .returned (.tuple #[(decF l).val A c, .int .i64 (decC l)]) ∧ (decF l).Ok w' w'.heap.size A c ∧ Ext w w'
theorem DecP.val {w w' : World} {l : List UInt8} {e : Ending} (h : DecP w (decM l) e w') : DecW w l e w' := by
  obtain ⟨hE, h⟩ := h
  unfold DecW decF decC
  cases hd : decM l with
  | none => rw [hd] at h; exact ⟨none, 0, h, nilMf_ok _ _, hE⟩
  | some m => rw [hd] at h; obtain ⟨A, c, rfl, ho⟩ := h; exact ⟨A, c, rfl, ho, hE⟩
theorem sameP_refl (m : Mf) : sameP m m = true := by unfold sameP; simp
end Go.Proofs.YtijnomopcpgikaaDoor
