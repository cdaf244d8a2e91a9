/- The machine's reading, and its laying of blocks. -/
import Derived.Test.YtpfmjagbjdkdcaaGreatDoorAmB
import Derived.Laws.Cells
import Derived.Laws.Entries
import Derived.Orders
set_option linter.unusedSimpArgs false
set_option linter.unusedVariables false
namespace Go.Proofs.YtpfmjagbjdkdcaaGreatDoor.Am
open Go.Proofs.YtpfmjagbjdkdcaaGreatDoor Go.RowKit

def cell (h : HT AObj) (a : Addr) (j : Nat) : Option Value :=
  match a.spot with
  | some _ => none
  | none => match h.get a.block with
    | some (.cells cs _ _ _) => cs[a.off + j]?
    | _ => none
def cellsN (h : HT AObj) (a : Addr) (n : Nat) : Option (List Value) :=
  match a.spot with
  | some _ => none
  | none => match h.get a.block with
    | some (.cells cs _ _ _) => match Nat.ble (a.off + n) cs.length with
      | true => some ((cs.drop a.off).take n)
      | false => none
    | _ => none
section
variable {base gm : Nat} {f : Ren} {A : AS} {w : World}
theorem cell_ok (hW : WR base gm f A w) {a a' : Addr} (ha : AR f a a') {j : Nat} {v : Value} (h : cell A.h a j = some v) :
    ∃ v', w.cell? ⟨a'.block, a'.off + j, none⟩ = some v' ∧ VR f v v' := by
  obtain ⟨l, hl, rfl⟩ := ha
  unfold cell at h
  split at h
  · cases h
  · split at h
    · rename_i cs t fz so hg
      obtain ⟨l2, hl2, ho⟩ := hW.ob _ _ hg
      rw [hl] at hl2
      cases hl2
      cases ho with
      | hard hw hr =>
        rename_i cs' b
        obtain ⟨v', e, hv⟩ := hr.get h
        refine ⟨v', ?_, hv⟩
        unfold World.cell?
        rw [hw]
        simpa using e
      | soft hw hs hT hT' hle hfz hr =>
        obtain ⟨v', e, hv⟩ := hr _ _ h
        refine ⟨v', ?_, hv⟩
        unfold World.cell?
        rw [hw]
        rw [Nat.add_right_comm] at e
        simpa using e
      | obj _ ho => cases ho
    · cases h
theorem addr_add {b o j : Nat} : (⟨b, o, none⟩ : Addr).add j = ⟨b, o + j, none⟩ := by
  unfold Addr.add
  split
  · rename_i h; subst h; rfl
  · rfl
theorem cellsN_ok {P : Program} (hW : WR base gm f A w) {a a' : Addr} (ha : AR f a a') {n : Nat} {vs : List Value} (h : cellsN A.h a n = some vs) :
    ∃ vs', (loadCells a' n).run P w = .ok vs'.toArray w ∧ LR f vs vs' ∧ vs.length = n := by
  have hsp : a.spot = none := by
    unfold cellsN at h
    split at h
    · cases h
    · assumption
  have hv : vs.length = n ∧ ∀ j v, vs[j]? = some v → cell A.h a j = some v := by
    unfold cellsN at h
    rw [hsp] at h
    dsimp only at h
    split at h
    · rename_i cs t fz so hg
      split at h
      · rename_i hle
        have hle := Nat.le_of_ble_eq_true hle
        cases h
        refine ⟨by rw [List.length_take, List.length_drop]; omega, fun j v hj => ?_⟩
        unfold cell
        rw [hsp]
        dsimp only
        rw [hg]
        dsimp only
        rw [List.getElem?_take] at hj
        split at hj
        · rw [List.getElem?_drop] at hj; exact hj
        · cases hj
      · cases h
    · cases h
  have hall : ∀ j, ∃ v', j < n → (w.cell? ⟨a'.block, a'.off + j, none⟩ = some v' ∧ ∀ v, vs[j]? = some v → VR f v v') := fun j => by
    by_cases hj : j < n
    · have e := List.getElem?_eq_getElem (l := vs) (i := j) (by omega)
      obtain ⟨v', h1, h2⟩ := cell_ok hW ha (hv.2 j _ e)
      exact ⟨v', fun _ => ⟨h1, fun v hv' => by rw [e] at hv'; cases hv'; exact h2⟩⟩
    · exact ⟨.nilFunc, fun h => absurd h hj⟩
  obtain ⟨g, hg⟩ := Classical.axiomOfChoice hall
  have ha' : a' = ⟨a'.block, a'.off, none⟩ := by
    obtain ⟨l, _, e⟩ := ha
    rw [hsp] at e
    rw [e]
  have hrun := run_loadCells (P := P) (w := w) a' n g (fun j hj => by rw [ha', addr_add]; exact (hg j hj).1)
  refine ⟨(List.range n).map g, ?_, ⟨by simp [hv.1], fun j v v' h1 h2 => ?_⟩, hv.1⟩
  · rw [hrun]
  · have hj : j < n := by rw [← hv.1]; exact (List.getElem?_eq_some_iff.1 h1).1
    rw [List.getElem?_map, List.getElem?_range hj] at h2
    cases h2
    exact (hg j hj).2 v h1
end
end Go.Proofs.YtpfmjagbjdkdcaaGreatDoor.Am
