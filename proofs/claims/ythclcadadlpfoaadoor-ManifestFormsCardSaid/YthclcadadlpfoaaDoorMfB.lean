/- loggia/manifest, loggiaref16: which numbers and partitions may be. -/
import Derived.Test.YthclcadadlpfoaaDoorMfA
import Derived.WalkKit
namespace Go.Proofs.YthclcadadlpfoaaDoor
open Go.RowKit

def numP (n : Int) : Bool := decide (1 ≤ n) && decide (n ≤ 99999999)
def partP (p : Pt) : Bool := numP p.id && (decide (p.st = 2) || decide (p.st = 3)) && decide (p.lo ≤ p.hi) && decide (1 ≤ p.fi) && decide (p.fi ≤ p.la) && decide (p.la ≤ 1099511627776) && decide (p.n = p.la - p.fi + 1)
def Pt.val (p : Pt) : Value := .agg #[.int .i64 p.id, .int .i64 p.st, .int .i64 p.lo, .int .i64 p.hi, .int .i64 p.fi, .int .i64 p.la, .int .i64 p.n]
set_option maxRecDepth 100000 in
theorem numbered_any (n : Int) (w : World) : Calls Tryd.prog 13 #[.int .i64 n] w fun e w' => e = .returned (.bool (numP n)) ∧ w' = w := by
  by_cases h1 : 1 ≤ n
  · by_cases h2 : n ≤ 99999999
    · have hp : numP n = true := by unfold numP; rw [decide_eq_true h1, decide_eq_true h2]; rfl
      rw [hp]
      clear hp
      go_enter Tryd.func13, Tryd.ntmps13
      go_wp2_with fail
      go_ret
      exact ⟨ret_bool (by first | rfl | simp [h1, h2]), rfl⟩
    · have hp : numP n = false := by unfold numP; rw [decide_eq_false h2, Bool.and_false]
      rw [hp]
      clear hp
      go_enter Tryd.func13, Tryd.ntmps13
      go_wp2_with fail
      go_ret
      exact ⟨ret_bool (by first | rfl | simp [h1, h2]), rfl⟩
  · have hp : numP n = false := by unfold numP; rw [decide_eq_false h1, Bool.false_and]
    rw [hp]
    clear hp
    go_enter Tryd.func13, Tryd.ntmps13
    go_wp2_with fail
    go_ret
    exact ⟨ret_bool (by first | rfl | simp [h1]), rfl⟩
set_option maxRecDepth 100000 in
theorem eight_any (n : Int) (w : World) : Calls Tryd.prog 19 #[.int .i64 n] w fun e w' => e = .returned (.bool (numP n)) ∧ w' = w := by
  by_cases h1 : 1 ≤ n
  · by_cases h2 : n ≤ 99999999
    · have hp : numP n = true := by unfold numP; rw [decide_eq_true h1, decide_eq_true h2]; rfl
      rw [hp]
      clear hp
      go_enter Tryd.func19, Tryd.ntmps19
      go_wp2_with fail
      go_ret
      exact ⟨ret_bool (by first | rfl | simp [h1, h2]), rfl⟩
    · have hp : numP n = false := by unfold numP; rw [decide_eq_false h2, Bool.and_false]
      rw [hp]
      clear hp
      go_enter Tryd.func19, Tryd.ntmps19
      go_wp2_with fail
      go_ret
      exact ⟨ret_bool (by first | rfl | simp [h1, h2]), rfl⟩
  · have hp : numP n = false := by unfold numP; rw [decide_eq_false h1, Bool.false_and]
    rw [hp]
    clear hp
    go_enter Tryd.func19, Tryd.ntmps19
    go_wp2_with fail
    go_ret
    exact ⟨ret_bool (by first | rfl | simp [h1]), rfl⟩
set_option maxRecDepth 100000 in
set_option maxHeartbeats 4000000 in
theorem part_any (p : Pt) (w : World) (h : p.Ok) : Calls Tryd.prog 12 #[p.val] w fun e w' => e = .returned (.bool (partP p)) ∧ Ext w w' := by
  have hnum : ∀ W, Calls Tryd.prog 13 #[.int .i64 p.id] W fun e w' => e = .returned (.bool (numP p.id)) ∧ w' = W := numbered_any p.id
  obtain ⟨b1, b2, b3, b4, b5, b6, b7⟩ := h
  unfold I64ok at b1 b2 b3 b4 b5 b6 b7
  unfold Pt.val
  cases h0 : numP p.id with
  | false =>
    rw [h0] at hnum
    replace hnum := hide hnum
    have hp : partP p = false := by unfold partP; simp [h0]
    rw [hp]
    clear hp
    go_enter Tryd.func12, Tryd.ntmps12
    go_wp2_with fail
    refine (hnum.out _).mono ?_
    rintro e w1 ⟨rfl, rfl⟩
    go_wp2_with fail
    go_ret
    exact ⟨ret_bool (by first | rfl | simp [h0] | omega), (Ext.refl w).alloc _⟩
  | true =>
    rw [h0] at hnum
    replace hnum := hide hnum
    by_cases h1 : p.st = 2
    · by_cases h3 : p.lo ≤ p.hi
      · by_cases h4 : 1 ≤ p.fi
        · by_cases h5 : p.fi ≤ p.la
          · by_cases h6 : p.la ≤ 1099511627776
            · by_cases h7 : p.n = p.la - p.fi + 1
              · have hp : partP p = true := by unfold partP; simp [h0, h1, h3, h4, h5, h6, h7]
                rw [hp]
                clear hp
                go_enter Tryd.func12, Tryd.ntmps12
                go_wp2_with fail
                refine (hnum.out _).mono ?_
                rintro e w1 ⟨rfl, rfl⟩
                go_wp2_with fail
                go_ret
                exact ⟨ret_bool (by first | rfl | simp [h0, h1, h3, h4, h5, h6, h7] | omega), (Ext.refl w).alloc _⟩
              · have hp : partP p = false := by unfold partP; simp [h0, h1, h3, h4, h5, h6, h7]
                rw [hp]
                clear hp
                go_enter Tryd.func12, Tryd.ntmps12
                go_wp2_with fail
                refine (hnum.out _).mono ?_
                rintro e w1 ⟨rfl, rfl⟩
                go_wp2_with fail
                go_ret
                exact ⟨ret_bool (by first | rfl | simp [h0, h1, h3, h4, h5, h6, h7] | omega), (Ext.refl w).alloc _⟩
            · have hp : partP p = false := by unfold partP; simp [h0, h1, h3, h4, h5, h6]
              rw [hp]
              clear hp
              go_enter Tryd.func12, Tryd.ntmps12
              go_wp2_with fail
              refine (hnum.out _).mono ?_
              rintro e w1 ⟨rfl, rfl⟩
              go_wp2_with fail
              go_ret
              exact ⟨ret_bool (by first | rfl | simp [h0, h1, h3, h4, h5, h6] | omega), (Ext.refl w).alloc _⟩
          · have hp : partP p = false := by unfold partP; simp [h0, h1, h3, h4, h5]
            rw [hp]
            clear hp
            go_enter Tryd.func12, Tryd.ntmps12
            go_wp2_with fail
            refine (hnum.out _).mono ?_
            rintro e w1 ⟨rfl, rfl⟩
            go_wp2_with fail
            go_ret
            exact ⟨ret_bool (by first | rfl | simp [h0, h1, h3, h4, h5] | omega), (Ext.refl w).alloc _⟩
        · have hp : partP p = false := by unfold partP; simp [h0, h1, h3, h4]
          rw [hp]
          clear hp
          go_enter Tryd.func12, Tryd.ntmps12
          go_wp2_with fail
          refine (hnum.out _).mono ?_
          rintro e w1 ⟨rfl, rfl⟩
          go_wp2_with fail
          go_ret
          exact ⟨ret_bool (by first | rfl | simp [h0, h1, h3, h4] | omega), (Ext.refl w).alloc _⟩
      · have hp : partP p = false := by unfold partP; simp [h0, h1, h3]
        rw [hp]
        clear hp
        go_enter Tryd.func12, Tryd.ntmps12
        go_wp2_with fail
        refine (hnum.out _).mono ?_
        rintro e w1 ⟨rfl, rfl⟩
        go_wp2_with fail
        go_ret
        exact ⟨ret_bool (by first | rfl | simp [h0, h1, h3] | omega), (Ext.refl w).alloc _⟩
    by_cases h2 : p.st = 3
    · by_cases h3 : p.lo ≤ p.hi
      · by_cases h4 : 1 ≤ p.fi
        · by_cases h5 : p.fi ≤ p.la
          · by_cases h6 : p.la ≤ 1099511627776
            · by_cases h7 : p.n = p.la - p.fi + 1
              · have hp : partP p = true := by unfold partP; simp [h0, h1, h2, h3, h4, h5, h6, h7]
                rw [hp]
                clear hp
                go_enter Tryd.func12, Tryd.ntmps12
                go_wp2_with fail
                refine (hnum.out _).mono ?_
                rintro e w1 ⟨rfl, rfl⟩
                go_wp2_with fail
                go_ret
                exact ⟨ret_bool (by first | rfl | simp [h0, h1, h2, h3, h4, h5, h6, h7] | omega), (Ext.refl w).alloc _⟩
              · have hp : partP p = false := by unfold partP; simp [h0, h1, h2, h3, h4, h5, h6, h7]
                rw [hp]
                clear hp
                go_enter Tryd.func12, Tryd.ntmps12
                go_wp2_with fail
                refine (hnum.out _).mono ?_
                rintro e w1 ⟨rfl, rfl⟩
                go_wp2_with fail
                go_ret
                exact ⟨ret_bool (by first | rfl | simp [h0, h1, h2, h3, h4, h5, h6, h7] | omega), (Ext.refl w).alloc _⟩
            · have hp : partP p = false := by unfold partP; simp [h0, h1, h2, h3, h4, h5, h6]
              rw [hp]
              clear hp
              go_enter Tryd.func12, Tryd.ntmps12
              go_wp2_with fail
              refine (hnum.out _).mono ?_
              rintro e w1 ⟨rfl, rfl⟩
              go_wp2_with fail
              go_ret
              exact ⟨ret_bool (by first | rfl | simp [h0, h1, h2, h3, h4, h5, h6] | omega), (Ext.refl w).alloc _⟩
          · have hp : partP p = false := by unfold partP; simp [h0, h1, h2, h3, h4, h5]
            rw [hp]
            clear hp
            go_enter Tryd.func12, Tryd.ntmps12
            go_wp2_with fail
            refine (hnum.out _).mono ?_
            rintro e w1 ⟨rfl, rfl⟩
            go_wp2_with fail
            go_ret
            exact ⟨ret_bool (by first | rfl | simp [h0, h1, h2, h3, h4, h5] | omega), (Ext.refl w).alloc _⟩
        · have hp : partP p = false := by unfold partP; simp [h0, h1, h2, h3, h4]
          rw [hp]
          clear hp
          go_enter Tryd.func12, Tryd.ntmps12
          go_wp2_with fail
          refine (hnum.out _).mono ?_
          rintro e w1 ⟨rfl, rfl⟩
          go_wp2_with fail
          go_ret
          exact ⟨ret_bool (by first | rfl | simp [h0, h1, h2, h3, h4] | omega), (Ext.refl w).alloc _⟩
      · have hp : partP p = false := by unfold partP; simp [h0, h1, h2, h3]
        rw [hp]
        clear hp
        go_enter Tryd.func12, Tryd.ntmps12
        go_wp2_with fail
        refine (hnum.out _).mono ?_
        rintro e w1 ⟨rfl, rfl⟩
        go_wp2_with fail
        go_ret
        exact ⟨ret_bool (by first | rfl | simp [h0, h1, h2, h3] | omega), (Ext.refl w).alloc _⟩
    · have hp : partP p = false := by unfold partP; simp [h0, h1, h2]
      rw [hp]
      clear hp
      go_enter Tryd.func12, Tryd.ntmps12
      go_wp2_with fail
      refine (hnum.out _).mono ?_
      rintro e w1 ⟨rfl, rfl⟩
      go_wp2_with fail
      go_ret
      exact ⟨ret_bool (by first | rfl | simp [h0, h1, h2] | omega), (Ext.refl w).alloc _⟩
set_option maxRecDepth 100000 in
set_option maxHeartbeats 4000000 in
theorem rpart_any (p : Pt) (w : World) (h : p.Ok) : Calls Tryd.prog 18 #[p.val] w fun e w' => e = .returned (.bool (partP p)) ∧ Ext w w' := by
  have hnum : ∀ W, Calls Tryd.prog 19 #[.int .i64 p.id] W fun e w' => e = .returned (.bool (numP p.id)) ∧ w' = W := eight_any p.id
  obtain ⟨b1, b2, b3, b4, b5, b6, b7⟩ := h
  unfold I64ok at b1 b2 b3 b4 b5 b6 b7
  unfold Pt.val
  cases h0 : numP p.id with
  | false =>
    rw [h0] at hnum
    replace hnum := hide hnum
    have hp : partP p = false := by unfold partP; simp [h0]
    rw [hp]
    clear hp
    go_enter Tryd.func18, Tryd.ntmps18
    go_wp2_with fail
    refine (hnum.out _).mono ?_
    rintro e w1 ⟨rfl, rfl⟩
    go_wp2_with fail
    go_ret
    exact ⟨ret_bool (by first | rfl | simp [h0] | omega), (Ext.refl w).alloc _⟩
  | true =>
    rw [h0] at hnum
    replace hnum := hide hnum
    by_cases h1 : p.st = 2
    · by_cases h3 : p.lo ≤ p.hi
      · by_cases h4 : 1 ≤ p.fi
        · by_cases h5 : p.fi ≤ p.la
          · by_cases h6 : p.la ≤ 1099511627776
            · by_cases h7 : p.n = p.la - p.fi + 1
              · have hp : partP p = true := by unfold partP; simp [h0, h1, h3, h4, h5, h6, h7]
                rw [hp]
                clear hp
                go_enter Tryd.func18, Tryd.ntmps18
                go_wp2_with fail
                refine (hnum.out _).mono ?_
                rintro e w1 ⟨rfl, rfl⟩
                go_wp2_with fail
                go_ret
                exact ⟨ret_bool (by first | rfl | simp [h0, h1, h3, h4, h5, h6, h7] | omega), (Ext.refl w).alloc _⟩
              · have hp : partP p = false := by unfold partP; simp [h0, h1, h3, h4, h5, h6, h7]
                rw [hp]
                clear hp
                go_enter Tryd.func18, Tryd.ntmps18
                go_wp2_with fail
                refine (hnum.out _).mono ?_
                rintro e w1 ⟨rfl, rfl⟩
                go_wp2_with fail
                go_ret
                exact ⟨ret_bool (by first | rfl | simp [h0, h1, h3, h4, h5, h6, h7] | omega), (Ext.refl w).alloc _⟩
            · have hp : partP p = false := by unfold partP; simp [h0, h1, h3, h4, h5, h6]
              rw [hp]
              clear hp
              go_enter Tryd.func18, Tryd.ntmps18
              go_wp2_with fail
              refine (hnum.out _).mono ?_
              rintro e w1 ⟨rfl, rfl⟩
              go_wp2_with fail
              go_ret
              exact ⟨ret_bool (by first | rfl | simp [h0, h1, h3, h4, h5, h6] | omega), (Ext.refl w).alloc _⟩
          · have hp : partP p = false := by unfold partP; simp [h0, h1, h3, h4, h5]
            rw [hp]
            clear hp
            go_enter Tryd.func18, Tryd.ntmps18
            go_wp2_with fail
            refine (hnum.out _).mono ?_
            rintro e w1 ⟨rfl, rfl⟩
            go_wp2_with fail
            go_ret
            exact ⟨ret_bool (by first | rfl | simp [h0, h1, h3, h4, h5] | omega), (Ext.refl w).alloc _⟩
        · have hp : partP p = false := by unfold partP; simp [h0, h1, h3, h4]
          rw [hp]
          clear hp
          go_enter Tryd.func18, Tryd.ntmps18
          go_wp2_with fail
          refine (hnum.out _).mono ?_
          rintro e w1 ⟨rfl, rfl⟩
          go_wp2_with fail
          go_ret
          exact ⟨ret_bool (by first | rfl | simp [h0, h1, h3, h4] | omega), (Ext.refl w).alloc _⟩
      · have hp : partP p = false := by unfold partP; simp [h0, h1, h3]
        rw [hp]
        clear hp
        go_enter Tryd.func18, Tryd.ntmps18
        go_wp2_with fail
        refine (hnum.out _).mono ?_
        rintro e w1 ⟨rfl, rfl⟩
        go_wp2_with fail
        go_ret
        exact ⟨ret_bool (by first | rfl | simp [h0, h1, h3] | omega), (Ext.refl w).alloc _⟩
    by_cases h2 : p.st = 3
    · by_cases h3 : p.lo ≤ p.hi
      · by_cases h4 : 1 ≤ p.fi
        · by_cases h5 : p.fi ≤ p.la
          · by_cases h6 : p.la ≤ 1099511627776
            · by_cases h7 : p.n = p.la - p.fi + 1
              · have hp : partP p = true := by unfold partP; simp [h0, h1, h2, h3, h4, h5, h6, h7]
                rw [hp]
                clear hp
                go_enter Tryd.func18, Tryd.ntmps18
                go_wp2_with fail
                refine (hnum.out _).mono ?_
                rintro e w1 ⟨rfl, rfl⟩
                go_wp2_with fail
                go_ret
                exact ⟨ret_bool (by first | rfl | simp [h0, h1, h2, h3, h4, h5, h6, h7] | omega), (Ext.refl w).alloc _⟩
              · have hp : partP p = false := by unfold partP; simp [h0, h1, h2, h3, h4, h5, h6, h7]
                rw [hp]
                clear hp
                go_enter Tryd.func18, Tryd.ntmps18
                go_wp2_with fail
                refine (hnum.out _).mono ?_
                rintro e w1 ⟨rfl, rfl⟩
                go_wp2_with fail
                go_ret
                exact ⟨ret_bool (by first | rfl | simp [h0, h1, h2, h3, h4, h5, h6, h7] | omega), (Ext.refl w).alloc _⟩
            · have hp : partP p = false := by unfold partP; simp [h0, h1, h2, h3, h4, h5, h6]
              rw [hp]
              clear hp
              go_enter Tryd.func18, Tryd.ntmps18
              go_wp2_with fail
              refine (hnum.out _).mono ?_
              rintro e w1 ⟨rfl, rfl⟩
              go_wp2_with fail
              go_ret
              exact ⟨ret_bool (by first | rfl | simp [h0, h1, h2, h3, h4, h5, h6] | omega), (Ext.refl w).alloc _⟩
          · have hp : partP p = false := by unfold partP; simp [h0, h1, h2, h3, h4, h5]
            rw [hp]
            clear hp
            go_enter Tryd.func18, Tryd.ntmps18
            go_wp2_with fail
            refine (hnum.out _).mono ?_
            rintro e w1 ⟨rfl, rfl⟩
            go_wp2_with fail
            go_ret
            exact ⟨ret_bool (by first | rfl | simp [h0, h1, h2, h3, h4, h5] | omega), (Ext.refl w).alloc _⟩
        · have hp : partP p = false := by unfold partP; simp [h0, h1, h2, h3, h4]
          rw [hp]
          clear hp
          go_enter Tryd.func18, Tryd.ntmps18
          go_wp2_with fail
          refine (hnum.out _).mono ?_
          rintro e w1 ⟨rfl, rfl⟩
          go_wp2_with fail
          go_ret
          exact ⟨ret_bool (by first | rfl | simp [h0, h1, h2, h3, h4] | omega), (Ext.refl w).alloc _⟩
      · have hp : partP p = false := by unfold partP; simp [h0, h1, h2, h3]
        rw [hp]
        clear hp
        go_enter Tryd.func18, Tryd.ntmps18
        go_wp2_with fail
        refine (hnum.out _).mono ?_
        rintro e w1 ⟨rfl, rfl⟩
        go_wp2_with fail
        go_ret
        exact ⟨ret_bool (by first | rfl | simp [h0, h1, h2, h3] | omega), (Ext.refl w).alloc _⟩
    · have hp : partP p = false := by unfold partP; simp [h0, h1, h2]
      rw [hp]
      clear hp
      go_enter Tryd.func18, Tryd.ntmps18
      go_wp2_with fail
      refine (hnum.out _).mono ?_
      rintro e w1 ⟨rfl, rfl⟩
      go_wp2_with fail
      go_ret
      exact ⟨ret_bool (by first | rfl | simp [h0, h1, h2] | omega), (Ext.refl w).alloc _⟩
end Go.Proofs.YthclcadadlpfoaaDoor
