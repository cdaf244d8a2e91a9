/- loggialaw05: strings of bytes, cut, Bound. -/
import Derived.Test.YteofooecfedplaaLzY
import Derived.Test.YteofooecfedplaaLzS
import Derived.Test.YteofooecfedplaaLzG
import Derived.Laws.BytesArg
namespace Go.Proofs.Yteofooecfedplaa
open Go.RowKit

theorem run_str {A : Option Addr} {l : List UInt8} {w : World} (h : Bs w A l) (n c : Nat) (hn : n = l.length) : (convert 22 9 (.slice A n c)).run Try.prog w = .ok (.string ⟨l.toArray⟩) w := by
  subst hn
  rcases Nat.eq_zero_or_pos l.length with h0 | h0
  · obtain rfl := List.eq_nil_of_length_eq_zero h0
    show (convert 22 9 (.slice A 0 c)).run Try.prog w = _
    rw [run_convert_bytes_string w 22 9 5 A 0 c Try.underlying22 Try.underlying5 Try.underlying9]
    cases A with
    | none => rfl
    | some a => exact run_bytesToString w a 0 c [] rfl
  · obtain ⟨g, o, rfl, hc⟩ := h.at_ h0
    have := run_convert_bytes_arg (P := Try.prog) w 22 5 Try.underlying22 Try.underlying5 g o l.length c (l.map fun x => (x.toNat : Int)) (by simp) (fun i hi => by rw [hc i hi]; simp [List.getD, hi]) 9 Try.underlying9
    rw [this]
    unfold strOfNums
    have e : (l.map fun x => (x.toNat : Int)).map (fun n => UInt8.ofNat n.toNat) = l := by
      rw [List.map_map]
      conv => rhs; rw [← List.map_id l]
      exact List.map_congr_left (fun x _ => by simp)
    rw [e]
set_option maxRecDepth 100000 in
set_option maxHeartbeats 1000000 in
theorem cut_any (A : Option Addr) (c n m : Nat) (w : World) (hc : n ≤ c) (hn : n ≤ 9223372036854775807) (hm : m = min n 1200) :
    Calls Try.prog 7 #[.slice A n c] w fun e w' => e = .returned (.slice A m c) ∧ w' = w := by
  have hmin := run_min2 (P := Try.prog) #[3, 3] 3 (x := (n : Int)) (y := 1200) (m := (m : Int)) (by omega) w
  have hmc : m ≤ c := by omega
  go_enter Try.func7, Try.ntmps7
  go_wp2_with fail
  go_ret
  rw [hm]
  exact ⟨rfl, rfl⟩
/-- What P5.1 tells of the most that packed bytes may be. -/
def boundM (n : Int) : Int := if n < 0 ∨ 16777216 < n then 0 else n + 4 + (n + 127) / 128
set_option maxRecDepth 100000 in
set_option maxHeartbeats 1000000 in
theorem bound_any (n : Int) (w : World) (h1 : -9223372036854775808 ≤ n) (h2 : n ≤ 9223372036854775807) : Calls Try.prog 10 #[.int .i64 n] w fun e w' => e = .returned (.int .i64 (boundM n)) ∧ w' = w := by
  rcases Int.lt_or_le n 0 with h | h
  · have hb : boundM n = 0 := if_pos (.inl h)
    rw [hb]
    go_enter Try.func10, Try.ntmps10
    go_wp2_with fail
    go_ret
    exact ⟨rfl, rfl⟩
  · rcases Int.lt_or_le 16777216 n with k | k
    · have hb : boundM n = 0 := if_pos (.inr k)
      rw [hb]
      go_enter Try.func10, Try.ntmps10
      go_wp2_with fail
      go_ret
      exact ⟨rfl, rfl⟩
    · have hb : boundM n = n + 4 + (n + 127) / 128 := if_neg (by omega)
      rw [hb]
      obtain ⟨m, rfl⟩ : ∃ m : Nat, n = m := ⟨n.toNat, by omega⟩
      go_enter Try.func10, Try.ntmps10
      go_wp2_with fail
      go_ret
      exact ⟨ret_int (by omega), rfl⟩
set_option maxRecDepth 100000 in
set_option maxHeartbeats 1000000 in
theorem rbound_any (n : Int) (w : World) (h1 : -9223372036854775808 ≤ n) (h2 : n ≤ 9223372036854775807) : Calls Try.prog 11 #[.int .i64 n] w fun e w' => e = .returned (.int .i64 (boundM n)) ∧ w' = w := by
  rcases Int.lt_or_le n 0 with h | h
  · have hb : boundM n = 0 := if_pos (.inl h)
    rw [hb]
    go_enter Try.func11, Try.ntmps11
    go_wp2_with fail
    go_ret
    exact ⟨rfl, rfl⟩
  · rcases Int.lt_or_le 16777216 n with k | k
    · have hb : boundM n = 0 := if_pos (.inr k)
      rw [hb]
      go_enter Try.func11, Try.ntmps11
      go_wp2_with fail
      go_ret
      exact ⟨rfl, rfl⟩
    · have hb : boundM n = n + 4 + (n + 127) / 128 := if_neg (by omega)
      rw [hb]
      obtain ⟨m, rfl⟩ : ∃ m : Nat, n = m := ⟨n.toNat, by omega⟩
      go_enter Try.func11, Try.ntmps11
      go_wp2_with fail
      go_ret
      exact ⟨ret_int (by omega), rfl⟩
theorem pack_eg : packM [97, 98, 97, 98, 97, 98, 97, 98, 97, 98, 88] = [0, 0, 0, 11, 1, 97, 98, 132, 0, 2, 0, 88] := by decide
theorem up_eg : upM [0, 0, 0, 11, 1, 97, 98, 132, 0, 2, 0, 88] = ([97, 98, 97, 98, 97, 98, 97, 98, 97, 98, 88], 0) := by decide
theorem up_no : upM [0, 0, 0, 1, 128, 0, 1] = ([], 50) := by decide
end Go.Proofs.Yteofooecfedplaa
