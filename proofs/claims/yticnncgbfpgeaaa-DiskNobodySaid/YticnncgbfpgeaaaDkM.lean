/- slices.Clone of bytes; Read. -/
import Derived.Test.YticnncgbfpgeaaaDkL
namespace Go.Proofs.Yticnncgbfpgeaaa
open Go.RowKit Go.Maps

set_option maxRecDepth 100000 in
theorem nil_eq (w : World) : (binOp .eql 27 (.slice none 0 0) (.slice none 0 0)).run Try.prog w = .ok (.bool true) w := by kernel_rfl
set_option maxRecDepth 100000 in
theorem nil_ne (a : Addr) (n c : Nat) (w : World) : (binOp .eql 27 (.slice (some a) n c) (.slice none 0 0)).run Try.prog w = .ok (.bool false) w := by kernel_rfl
theorem ret_slice {A : Option Addr} {n m c : Nat} (h : n = m) : Ending.returned (.slice A n c) = .returned (.slice A m c) := by rw [h]
theorem own_empty (w : World) (t : TypeId) : (w.alloc (.cells #[] t)).ownsRow w.heap.size t 1 (.slice (some ⟨w.heap.size, 0, none⟩) 0 0) 0 [] :=
  ⟨rfl, .inr ⟨w.heap.size, 0, #[], rfl, Nat.le_refl _, heap_alloc_new w _, Nat.le_refl _, by unfold maxLen; omega, rfl, rfl⟩⟩
set_option maxRecDepth 100000 in
theorem clone_any (A : Option Addr) (n c : Nat) (l : List UInt8) (w : World) (hn : n = l.length) (hl : Bs w A l) (hz : A = none → c = 0) (hle : n ≤ 1073741824) :
    Calls Try.prog 33 #[.slice A n c] w fun e w' => ∃ A1 c1, e = .returned (.slice A1 n c1) ∧ Buf w' w.heap.size 5 A1 n c1 (l.map B8) ∧ Ext w w' := by
  cases A with
  | none =>
    have h0 : l = [] := by
      rcases hl with h | ⟨_, _, h, _⟩
      · simpa using h
      · cases h
    subst h0
    obtain rfl : c = 0 := hz rfl
    obtain rfl : n = 0 := hn
    have hq := nil_eq w
    go_enter Try.func33, Try.ntmps33
    go_wp2_with fail
    go_ret
    exact ⟨none, 0, rfl, Buf.nil _ _ _, Ext.refl _⟩
  | some a =>
    have hq := nil_ne a n c w
    have ho := own_empty w 5
    have hE0 : Ext w (w.alloc (.cells #[] 5)) := (Ext.refl w).alloc _
    have hb := hl.ext hE0
    have hln : (l.map B8).length = n * 1 := by rw [List.length_map, hn]; omega
    have hsz : w.heap.size ≤ (w.alloc (.cells #[] 5)).heap.size := hE0.size
    replace hln := hide hln
    replace hn := hide hn
    go_enter Try.func33, Try.ntmps33
    go_wp2_with (at_builtin; refine wpList_app (m := n) elemB ho hb (.tmp 5) (.tmp 6) rfl rfl rfl rfl rfl hln.out (bytes_one _) (by omega) hsz (fun A1 c1 w3 ho3 hg3 hl3 => ?_))
    go_ret
    refine ⟨A1, c1, rfl, ?_, hE0.grown hg3 (fun k hk => by cases hk; exact Nat.le_refl _)⟩
    have := Buf.of_own ho3
    rw [Nat.zero_add] at this
    exact this
/-- x[fr:fr+k] -/
theorem run_sub {t e n c fr k : Nat} {A : Option Addr} (ht : Try.prog.underlying t = some (.slice e)) (hs : ∀ W : World, (sizeOf e).run Try.prog W = .ok 1 W) (h : fr + k ≤ n) (hc : n ≤ c) (hA : A = none → c = 0) (hp : ∀ a, A = some a → a.spot = none) :
    ∃ A' c', (∀ W : World, (Instr.sliceAt t (.slice A n c) (some (.int .i64 fr)) (some (.int .i64 ((fr : Int) + k))) none).run Try.prog W = .ok (.slice A' k c') W) ∧ (∀ (w : World) (xs : List Value), xs.length = n → Cells w A xs → Cells w A' ((xs.drop fr).take k)) ∧ (A' = none → c' = 0) ∧ (∀ a', A' = some a' → ∃ a, A = some a ∧ a'.block = a.block) ∧ k ≤ c' := by
  have he : Try.prog.elem t = e := by unfold Program.elem; rw [ht]
  have hrun : ∀ W : World, (Instr.sliceAt t (.slice A n c) (some (.int .i64 fr)) (some (.int .i64 ((fr : Int) + k))) none).run Try.prog W = .ok (sliced A fr (fr + k) c 1) W := by
    intro W
    rw [run_sliceAt_slice W t _ _ _ _ (by rw [ht, he]), run_slice_lh W t A n c (by rw [ht, he]) .i64 .i64 fr ((fr : Int) + k) (by omega) (by omega) (by omega), he, hs]
    simp only [Result.andThen_ok]
    congr 1
  unfold sliced at hrun
  rw [Nat.add_sub_cancel_left] at hrun
  refine ⟨_, c - fr, hrun, ?_, ?_, ?_, by omega⟩
  · intro w xs hx hcl
    rcases hcl with hcl | ⟨g, o, hg, hcl⟩
    · subst hcl
      exact .inl (by simp)
    · subst hg
      by_cases hcf : c = fr
      · rw [if_pos hcf]
        have h0 : k = 0 := by omega
        subst h0
        exact .inl (by simp)
      · rw [if_neg hcf]
        refine .inr ⟨g, o + fr, by simp [Addr.add, Nat.mul_one], fun i v hv => ?_⟩
        rw [List.getElem?_take] at hv
        split at hv
        · rw [List.getElem?_drop] at hv
          rw [Nat.add_assoc]
          exact hcl _ _ hv
        · cases hv
  · intro hn
    cases A with
    | none => have := hA rfl; omega
    | some a =>
      split at hn
      · cases hn
      · cases hn
  · intro a' ha
    cases A with
    | none =>
      split at ha
      · cases ha
      · cases ha
    | some a =>
      refine ⟨a, rfl, ?_⟩
      split at ha
      · cases ha; rfl
      · cases ha
        obtain ⟨b, o, sp⟩ := a
        obtain rfl : sp = none := hp _ rfl
        show (Addr.add ⟨b, o, none⟩ (fr * 1)).block = b
        rw [Addr.add_lit]
end Go.Proofs.Yticnncgbfpgeaaa
