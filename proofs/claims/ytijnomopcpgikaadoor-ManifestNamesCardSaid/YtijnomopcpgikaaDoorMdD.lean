/- loggia/manifest: Decode. -/
import Derived.Test.YtijnomopcpgikaaDoorMdC
import Derived.Test.YtijnomopcpgikaaDoorMdB
namespace Go.Proofs.YtijnomopcpgikaaDoor
open Go.RowKit

set_option maxRecDepth 100000 in
theorem In8.sub {w : World} {A : Option Addr} {n c : Nat} {l : List UInt8} (h : In8 w A n c l) {fr k : Nat} (hf : fr + k ≤ n) {z0 z : Int} (hz0 : z0 = (fr : Int)) (hz : z = (fr : Int) + (k : Int)) :
    ∃ A' c', (∀ W : World, (Instr.sliceAt 25 (.slice A n c) (some (.int .i64 z0)) (some (.int .i64 z)) none).run Tryd.prog W = .ok (.slice A' k c') W) ∧ In8 w A' k c' ((l.drop fr).take k) := by
  subst hz0
  subst hz
  have ht := Tryd.underlying25
  have he : Tryd.prog.elem 25 = 5 := by unfold Program.elem; rw [ht]
  have hs : ∀ W : World, (sizeOf 5).run Tryd.prog W = .ok 1 W := fun W => by kernel_rfl
  have hcap := h.cap
  have hrun : ∀ W : World, (Instr.sliceAt 25 (.slice A n c) (some (.int .i64 fr)) (some (.int .i64 ((fr : Int) + (k : Int)))) none).run Tryd.prog W = .ok (sliced A fr (fr + k) c 1) W := by
    intro W
    rw [run_sliceAt_slice W _ _ _ _ _ (by rw [ht, he]), run_slice_lh W _ A n c (by rw [ht, he]) .i64 .i64 fr ((fr : Int) + k) (by omega) (by omega) (by omega), he, hs]
    simp only [Result.andThen_ok]
    congr 1
  unfold sliced at hrun
  rw [Nat.add_sub_cancel_left] at hrun
  refine ⟨_, _, hrun, by rw [List.length_take, List.length_drop, ← h.len]; omega, ?_, by omega, ?_, ?_⟩
  · rcases h.bytes with hb | ⟨g, o, rfl, hb⟩
    · left
      have : l = [] := by simpa using hb
      rw [this]
      simp
    · by_cases hcf : c = fr
      · left
        have : k = 0 := by omega
        subst this
        simp
      · refine .inr ⟨g, o + fr, by rw [if_neg hcf]; simp [Addr.add_lit], fun i v hv => ?_⟩
        rw [Nat.add_assoc]
        refine hb (fr + i) v ?_
        rw [List.getElem?_map] at hv ⊢
        rw [List.getElem?_take] at hv
        split at hv
        · rw [List.getElem?_drop] at hv
          exact hv
        · cases hv
  · intro hn
    cases A with
    | none => have := h.nil_ rfl; omega
    | some a => split at hn <;> cases hn
  · intro a ha
    cases A with
    | none => split at ha <;> cases ha
    | some b =>
      obtain ⟨h1, h2⟩ := h.at_ b rfl
      obtain ⟨b, o, sp⟩ := b
      obtain rfl : sp = Option.none := h1
      split at ha
      · cases ha; exact ⟨rfl, h2⟩
      · cases ha
        show (Addr.add ⟨b, o, none⟩ (fr * 1)).spot = none ∧ (Addr.add ⟨b, o, none⟩ (fr * 1)).block < w.heap.size
        rw [Addr.add_lit]
        exact ⟨rfl, h2⟩
def nilMf : Mf := ⟨[], 0, 0, 0, 0, 0⟩
/-- What Decode answers. -/
def DecP (w : World) (res : Option Mf) (e : Ending) (w' : World) : Prop := Ext w w' ∧ match res with
  | some m => ∃ A c, e = .returned (.tuple #[m.val A c, .int .i64 0]) ∧ m.Ok w' w'.heap.size A c
  | none => e = .returned (.tuple #[nilMf.val none 0, .int .i64 160])
theorem getM_reads (L : List UInt8) : ((partsP (numsM false L 5).1 (numsM false L 5).2.1).1 = false → getM L = some (mkMf (numsM false L 5).2.2 (partsP (numsM false L 5).1 (numsM false L 5).2.1).2)) ∧
    ((partsP (numsM false L 5).1 (numsM false L 5).2.1).1 = true → getM L = none) := by
  unfold getM
  cases hg : getAll 5 L with
  | error x =>
    rw [numsM_err hg]
    simp only
    refine ⟨fun h => ?_, fun _ => trivial⟩
    unfold partsP at h
    split at h
    · cases h
    · rw [if_pos (.inl rfl)] at h; cases h
  | ok p =>
    obtain ⟨ns, r⟩ := p
    rw [numsM_ok hg]
    simp only
    unfold partsP
    cases hv : getV 0 r with
    | error x => exact ⟨fun h => (by cases h), fun _ => rfl⟩
    | ok q =>
      obtain ⟨n, r2⟩ := q
      simp only [Bool.false_eq_true, false_or]
      by_cases h5 : 512 < n
      · rw [if_pos h5, if_pos h5]
        exact ⟨fun h => (by cases h), fun _ => rfl⟩
      · rw [if_neg h5, if_neg h5]
        cases hp : getPts n r2 with
        | error x =>
          have := partsM_err n r2 x hp
          exact ⟨fun h => (by rw [h] at this; cases this), fun _ => rfl⟩
        | ok t =>
          obtain ⟨ps, r3⟩ := t
          rw [partsM_ok n r2 ps r3 hp]
          exact ⟨fun _ => rfl, fun h => (by cases h)⟩
theorem five_of {l : List Int} (h : l.length = 5) : ∃ a0 a1 a2 a3 a4, l = [a0, a1, a2, a3, a4] := by
  match l, h with
  | [a0, a1, a2, a3, a4], _ => exact ⟨a0, a1, a2, a3, a4, rfl⟩
theorem owns_parts {w : World} {base : Nat} {P : Option Addr} {cp : Nat} {ps : List Pt} (h : w.ownsRow base 40 7 (.slice P ps.length cp) ps.length (pcells ps)) (hok : ∀ p ∈ ps, p.Ok) (h5 : ps.length ≤ 9223372036854775807) : PS w w.heap.size P ps.length cp ps := by
  refine ⟨rfl, Cells.of_own h, fun hne a ha => ?_, ?_, h5, hok⟩
  · rcases h.2 with ⟨hv, _⟩ | ⟨g, cap, cur, hv, _, hg, _⟩
    · injection hv with h0 _ _
      rw [h0] at ha
      cases ha
    · injection hv with h0 _ _
      rw [h0] at ha
      cases ha
      exact ⟨(Array.getElem?_eq_some_iff.1 hg).1, rfl⟩
  · rcases h.2 with ⟨hv, _⟩ | ⟨g, cap, cur, hv, _, hg, hn, _⟩
    · injection hv with _ h1 h2
      omega
    · injection hv with _ h1 h2
      omega
end Go.Proofs.YtijnomopcpgikaaDoor
