/- loggia/audit: Harmless; loggia/loggiaref29: Harmless. -/
import Derived.Test.YtpfmjagbjdkdcaaGreatDoorAkB
import Derived.Test.YtpfmjagbjdkdcaaGreatDoorAkC
set_option linter.unusedSimpArgs false
set_option linter.unusedVariables false
namespace Go.Proofs.YtpfmjagbjdkdcaaGreatDoor
open Go.RowKit

def hk4 (k : Int) : Bool := k == 4 || k == 5 || k == 7 || k == 8
def harm (l : List Pb) : Bool := l.all fun p => hk4 p.k
theorem kct_cons (p : Pb) (l : List Pb) (j : Nat) : kct (p :: l) j = kct l j + if kcl p.k = j then 1 else 0 := by
  unfold kct
  rw [List.countP_cons]
  congr 1
  by_cases h : kcl p.k = j <;> simp [h]
theorem kct_sum : ∀ l : List Pb, kct l 4 + kct l 5 + kct l 7 + kct l 8 ≤ l.length ∧ (kct l 4 + kct l 5 + kct l 7 + kct l 8 = l.length ↔ harm l = true)
  | [] => ⟨by decide, by decide⟩
  | p :: l => by
    obtain ⟨h1, h2⟩ := kct_sum l
    rw [kct_cons, kct_cons, kct_cons, kct_cons]
    have hk : hk4 p.k = true ↔ kcl p.k = 4 ∨ kcl p.k = 5 ∨ kcl p.k = 7 ∨ kcl p.k = 8 := by
      unfold hk4 kcl
      simp only [Bool.or_eq_true, beq_iff_eq]
      split <;> omega
    have hh : harm (p :: l) = true ↔ hk4 p.k = true ∧ harm l = true := by unfold harm; simp
    rw [hh, hk, ← h2, List.length_cons]
    repeat' split
    all_goals omega
set_option maxRecDepth 100000 in
set_option maxHeartbeats 2000000 in
theorem aharm_any (A : Option Addr) (n c : Nat) (ps : List Pb) (w : World) (h : PS w A n ps) (hn : n ≤ 60) :
    Calls Tryz.prog 7 #[.slice A n c] w fun e w' => e = .returned (.bool (harm ps)) ∧ Ext w w' := by
  have hk := akinds_any A n c ps w h hn
  have hs := (kct_sum ps).2
  have hs1 := (kct_sum ps).1
  rw [← h.len] at hs hs1
  have hq : kA ps = #[.int .i64 (kct ps 0 : Nat), .int .i64 (kct ps 1 : Nat), .int .i64 (kct ps 2 : Nat), .int .i64 (kct ps 3 : Nat), .int .i64 (kct ps 4 : Nat), .int .i64 (kct ps 5 : Nat), .int .i64 (kct ps 6 : Nat), .int .i64 (kct ps 7 : Nat), .int .i64 (kct ps 8 : Nat)] := rfl
  rw [hq] at hk
  clear hq h
  obtain ⟨b, hb⟩ : ∃ b, b = harm ps := ⟨_, rfl⟩
  rw [← hb] at hs ⊢
  clear hb
  generalize kct ps 0 = q0 at *
  generalize kct ps 1 = q1 at *
  generalize kct ps 2 = q2 at *
  generalize kct ps 3 = q3 at *
  generalize kct ps 4 = q4 at *
  generalize kct ps 5 = q5 at *
  generalize kct ps 6 = q6 at *
  generalize kct ps 7 = q7 at *
  generalize kct ps 8 = q8 at *
  replace hk := hide hk
  replace hs := hide hs
  go_enter Tryz.func7, Tryz.ntmps7
  go_wp2_with fail
  refine (hk.out).mono ?_
  rintro e w4 ⟨rfl, hE4⟩
  replace hE4 := hide hE4
  go_wp2_with fail
  have hfin : ((q4 : Int) + q5 + q7 + q8 == (n : Int)) = b := by
    rw [Bool.eq_iff_iff, ← hs.out, beq_iff_eq]
    omega
  exact bodyPost_ret (v := .bool ((q4 : Int) + q5 + q7 + q8 == (n : Int))) (by simp [results, Tryz.results7, go_sem]) rfl ⟨by rw [hfin], hE4.out.alloc _⟩
theorem harm_take {l : List Pb} {i : Nat} {p : Pb} (h : l[i]? = some p) (h1 : harm (l.take i) = true) (h2 : hk4 p.k = true) : harm (l.take (i + 1)) = true := by
  rw [take_at h]
  unfold harm at h1 ⊢
  rw [List.all_append, h1]
  simp [h2]
theorem harm_no {l : List Pb} {i : Nat} {p : Pb} (h : l[i]? = some p) (h2 : hk4 p.k = false) : harm l = false := by
  unfold harm
  rw [List.all_eq_false]
  exact ⟨p, List.mem_of_getElem? h, by simp [h2]⟩
set_option maxRecDepth 100000 in
set_option maxHeartbeats 2000000 in
theorem rharm_any (A : Option Addr) (n c : Nat) (ps : List Pb) (w : World) (h : PS w A n ps) (hn : n ≤ 60) :
    Calls Tryz.prog 8 #[.slice A n c] w fun e w' => e = .returned (.bool (harm ps)) ∧ Ext w w' := by
  obtain ⟨b, hb⟩ : ∃ b, b = harm ps := ⟨_, rfl⟩
  rw [← hb]
  have hln := hide h.len
  replace h := hide h
  replace hb := hide hb
  go_enter Tryz.func8, Tryz.ntmps8
  go_wp2_with fail
  go_loop [3, 4] (fun s3 _ => ∃ (i : Nat), s3 = .int .i64 (i : Int) ∧ i ≤ n ∧ Hid (harm (ps.take i) = true)) (fun s3 _ => n - (intOf s3).toNat)
  case atStart => exact ⟨0, rfl, by omega, hide rfl⟩
  case round =>
    obtain ⟨i, rfl, hi, h1⟩ := hrel
    by_cases hin : i < n
    · obtain ⟨g, s, p, rfl, hp, hc⟩ := h.out.at_ hin
      obtain ⟨hp1, hp2⟩ := hc w (Ext.refl w)
      clear hc hp1
      have hyes := fun h2 => hide (harm_take hp h1.out h2)
      have hno := fun h2 => hb.out.trans (harm_no hp h2)
      obtain ⟨f, k⟩ := p
      dsimp only at hp2 hyes hno
      clear hp
      by_cases hk : hk4 k = true
      · replace hyes := hyes hk
        clear hno
        have hks : k = 4 ∨ k = 5 ∨ k = 7 ∨ k = 8 := by
          unfold hk4 at hk
          simp only [Bool.or_eq_true, beq_iff_eq] at hk
          omega
        clear hk
        rcases hks with rfl | rfl | rfl | rfl
        all_goals
          go_wp2_with fail
          go_round
          case rel => exact ⟨i + 1, by go_num, by omega, hyes⟩
          case measure => simp only [intOf]; omega
      · have hbf := hno (by simpa using hk)
        have hks : k ≠ 4 ∧ k ≠ 5 ∧ k ≠ 7 ∧ k ≠ 8 := by
          unfold hk4 at hk
          simp only [Bool.or_eq_true, beq_iff_eq] at hk
          omega
        obtain ⟨k4, k5, k7, k8⟩ := hks
        subst hbf
        clear hk hno hyes
        replace k4 : (k != 4) = true := bne_iff_ne.2 k4
        replace k5 : (k != 5) = true := bne_iff_ne.2 k5
        replace k7 : (k != 7) = true := bne_iff_ne.2 k7
        replace k8 : (k != 8) = true := bne_iff_ne.2 k8
        go_wp2_with fail
        exact bodyPost_ret (v := .bool false) (by simp [results, Tryz.results8, go_sem]) rfl ⟨rfl, Ext.refl _⟩
    · obtain rfl : i = n := by omega
      have hbt : b = true := by
        rw [hb.out, ← h1.out, hln.out, List.take_length]
      subst hbt
      go_wp2_with fail
      exact bodyPost_ret (v := .bool true) (by simp [results, Tryz.results8, go_sem]) rfl ⟨rfl, Ext.refl _⟩
end Go.Proofs.YtpfmjagbjdkdcaaGreatDoor
