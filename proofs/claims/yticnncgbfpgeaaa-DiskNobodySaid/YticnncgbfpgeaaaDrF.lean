/- loggiaref06: call, New, Arm. -/
import Derived.Test.YticnncgbfpgeaaaDrE
namespace Go.Proofs.Yticnncgbfpgeaaa
open Go.RowKit Go.Maps

set_option maxRecDepth 100000 in
set_option maxHeartbeats 1000000 in
theorem rcall_any (A : Option Addr) (n c q a : Nat) (w : World) (ha : a ≤ 9223372036854775807) :
    Calls Try.prog 56 #[rdisk A n c q a false] w fun e w' => e = .returned (.tuple #[rdisk A n c q (a - 1) (decide (a = 1)), .bool (decide (a = 1))]) ∧ Ext w w' := by
  unfold rdisk
  by_cases h0 : a = 0
  · subst h0
    go_enter Try.func56, Try.ntmps56
    go_wp2_with fail
    exact bodyPost_ret (v := .tuple #[.agg #[.slice A n c, .int .i64 q, .int .i64 0, .bool false], .bool false]) (by simp [results, Try.results56, go_sem]) rfl ⟨rfl, ((Ext.refl w).alloc _).alloc _⟩
  · by_cases h1 : a = 1
    · subst h1
      go_enter Try.func56, Try.ntmps56
      go_wp2_with fail
      go_region
      go_wp2_with fail
      exact bodyPost_ret (v := .tuple #[.agg #[.slice A n c, .int .i64 q, .int .i64 0, .bool true], .bool true]) (by simp [results, Try.results56, go_sem]) rfl ⟨rfl, (((Ext.refl w).alloc _).alloc _).drew⟩
    · obtain ⟨k, rfl⟩ : ∃ k, a = k + 2 := ⟨a - 2, by omega⟩
      have hd : decide (k + 2 = 1) = false := decide_eq_false (by omega)
      have hk : k + 2 - 1 = k + 1 := rfl
      rw [hd, hk]
      clear hd hk h0 h1
      go_enter Try.func56, Try.ntmps56
      go_wp2_with fail
      go_region
      go_wp2_with fail
      have hk1 : ((k : Int) + 2 - 1) = ((k + 1 : Nat) : Int) := by omega
      rw [hk1]
      exact bodyPost_ret (v := .tuple #[.agg #[.slice A n c, .int .i64 q, .int .i64 ((k + 1 : Nat) : Int), .bool false], .bool false]) (by simp [results, Try.results56, go_sem]) rfl ⟨rfl, (((Ext.refl w).alloc _).alloc _).drew⟩
set_option maxRecDepth 100000 in
theorem rnew_no (q : Int) (w : World) (hq : q < 0) :
    Calls Try.prog 24 #[.int .i64 q] w fun e w' => e = .returned (.tuple #[rdisk none 0 0 0 0 false, .int .i64 1]) ∧ Ext w w' := by
  go_enter Try.func24, Try.ntmps24
  go_wp2_with fail
  exact bodyPost_ret (v := .tuple #[.agg #[.slice none 0 0, .int .i64 0, .int .i64 0, .bool false], .int .i64 1]) (by simp [results, Try.results24, go_sem]) rfl ⟨rfl, (Ext.refl w).alloc _⟩
set_option maxRecDepth 100000 in
theorem rnew_yes (q : Nat) (w : World) :
    Calls Try.prog 24 #[.int .i64 q] w fun e w' => e = .returned (.tuple #[rdisk none 0 0 q 0 false, .int .i64 0]) ∧ Ext w w' := by
  go_enter Try.func24, Try.ntmps24
  go_wp2_with fail
  exact bodyPost_ret (v := .tuple #[.agg #[.slice none 0 0, .int .i64 q, .int .i64 0, .bool false], .int .i64 0]) (by simp [results, Try.results24, go_sem]) rfl ⟨rfl, (Ext.refl w).alloc _⟩
set_option maxRecDepth 100000 in
theorem rarm_any (A : Option Addr) (n c q a : Nat) (st : Bool) (k : Int) (w : World) :
    Calls Try.prog 38 #[rdisk A n c q a st, .int .i64 k] w fun e w' => e = .returned (rdisk A n c q k.toNat st) ∧ Ext w w' := by
  unfold rdisk
  have hmx : (max k 0 : Int) = (k.toNat : Nat) := by omega
  have hmy : (max 0 k : Int) = (k.toNat : Nat) := by omega
  replace hmx := hide hmx
  replace hmy := hide hmy
  go_enter Try.func38, Try.ntmps38
  go_wp2_with fail
  all_goals
    first | rw [hmx.out] | rw [hmy.out]
    exact bodyPost_ret (v := .agg #[.slice A n c, .int .i64 q, .int .i64 (k.toNat : Nat), .bool st]) (by simp [results, Try.results38, go_sem]) rfl ⟨rfl, ((Ext.refl w).alloc _).alloc _⟩
end Go.Proofs.Yticnncgbfpgeaaa
