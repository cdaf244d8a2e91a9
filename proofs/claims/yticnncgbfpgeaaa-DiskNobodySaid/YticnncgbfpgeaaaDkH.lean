/- Sorting names. -/
import Derived.Test.YticnncgbfpgeaaaDkG
namespace Go.Proofs.Yticnncgbfpgeaaa
open Go.RowKit Go.Maps Go.Sort

theorem sort_any (base : Nat) (A : Option Addr) (n c : Nat) (ns : List (List UInt8)) (w : World) (hn : n = ns.length) (hb : Buf w base 9 A n c (ns.map str)) (hsz : n ≤ 1048576) :
    Calls Try.prog 53 #[.slice A n c] w fun e w' => e = .returned (.tuple #[]) ∧ Buf w' base 9 A n c ((ns.mergeSort fun x y => decide (x ≤ y)).map str) ∧ Chg (fun k => ∃ x, A = some x ∧ x.block = k) w w' := by
  subst hn
  obtain ⟨h1, h2, h3⟩ := hb
  rcases h3 with ⟨rfl, rfl⟩ | ⟨g, cur, rfl, hbg, hg, hs, ht⟩
  · have h0 : ns = [] := List.eq_nil_of_length_eq_zero (by omega)
    subst h0
    refine (Try.slices_Sort_string_none none 0 w).mono ?_
    rintro e w' ⟨rfl, rfl⟩
    exact ⟨rfl, by simpa using Buf.nil _ _ _, Chg.refl _ _⟩
  · have hH : Holds encStr w g 0 ns.toArray := by
      intro j hj
      simp at hj
      refine ⟨?_, hg.free _⟩
      rw [Nat.zero_add, cell_of_row w g j cur 9 (0, 0) hg]
      have : (cur.toList.take ns.length)[j]? = (ns.map str)[j]? := by rw [ht]
      rw [List.getElem?_take, if_pos hj] at this
      simp [hj] at this
      simpa [hj, encStr, str] using this
    refine (Try.slices_Sort_string g 0 c ns w hH hg.lt (by omega)).mono ?_
    rintro e w' ⟨rfl, k, os, rfl⟩
    obtain ⟨so, hso⟩ : ∃ so, so = (ns.mergeSort fun x y => decide (x ≤ y)) := ⟨_, rfl⟩
    have hsl : so.length = ns.length := by rw [hso]; exact List.length_mergeSort _
    rw [← hso]
    have hrow : Row (grow (putRow encStr (Sort.ahead w k) g 0 so.toArray) os) g 9 (putCells encStr 0 so.toArray cur) := by
      show ((w.heap.modify g (onCells (putCells encStr 0 so.toArray))) ++ os)[g]? = _
      rw [Array.getElem?_append_left (by simpa using hg.lt), Array.getElem?_modify, if_pos rfl]
      have : w.heap[g]? = some (.cells cur 9 (0, 0)) := hg
      rw [this]
      rfl
    refine ⟨rfl, ⟨by simp [hsl], h2, .inr ⟨g, _, rfl, hbg, hrow, ?_, ?_⟩⟩, ⟨rfl, rfl, rfl, ?_, ?_⟩⟩
    · simp [putCells]
      exact hs
    · apply List.ext_getElem?
      intro i
      rw [List.getElem?_take]
      split
      · rename_i hi
        have hic : i < cur.size := by
          rw [List.length_map] at h1
          omega
        have his : i < so.length := by omega
        rw [Array.getElem?_toList]
        unfold putCells
        rw [Array.getElem?_mapIdx, Array.getElem?_eq_getElem hic]
        simp [his, encStr, str]
      · rename_i hi
        rw [List.getElem?_eq_none (by rw [List.length_map]; omega)]
    · show w.heap.size ≤ ((w.heap.modify g (onCells (putCells encStr 0 so.toArray))) ++ os).size
      simp
    · intro j hj hne
      show ((w.heap.modify g (onCells (putCells encStr 0 so.toArray))) ++ os)[j]? = _
      rw [Array.getElem?_append_left (by simpa using hj), Array.getElem?_modify, if_neg (fun e => hne ⟨_, rfl, e⟩)]
end Go.Proofs.Yticnncgbfpgeaaa
