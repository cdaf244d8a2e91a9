/- loggiaref06: Named, less. -/
import Derived.Test.YticnncgbfpgeaaaDrA
namespace Go.Proofs.Yticnncgbfpgeaaa
open Go.RowKit Go.Maps

set_option maxRecDepth 100000 in
set_option maxHeartbeats 2000000 in
theorem rnamed_any (s : List UInt8) (w : World) (hs : s.length ≤ 9223372036854775807) :
    Calls Try.prog 54 #[str s] w fun e w' => e = .returned (.bool (namedM s)) ∧ w' = w := by
  unfold str
  obtain ⟨n, hn⟩ : ∃ n, n = s.length := ⟨_, rfl⟩
  have hsz : (⟨s.toArray⟩ : ByteArray).size = n := by rw [hn]; exact ByteArray.size_mk_toArray s
  by_cases h1 : n < 1
  · have hm : namedM s = false := by unfold namedM; rw [← hn]; simp; omega
    rw [hm]
    replace hn := hide hn
    go_enter Try.func54, Try.ntmps54
    go_wp2_with fail
    go_ret
    exact ⟨rfl, rfl⟩
  · by_cases h2 : 64 < n
    · have hm : namedM s = false := by unfold namedM; rw [← hn]; simp; omega
      rw [hm]
      replace hn := hide hn
      go_enter Try.func54, Try.ntmps54
      go_wp2_with fail
      go_ret
      exact ⟨rfl, rfl⟩
    · have hm : namedM s = s.all okb := by unfold namedM; rw [← hn]; simp; omega
      rw [hm]
      replace hn := hide hn
      go_enter Try.func54, Try.ntmps54
      go_wp2_with fail
      go_loopw [3] (fun s3 wr => ∃ i : Nat, s3 = .int .i64 i ∧ i ≤ n ∧ Hid (s.all okb = (s.drop i).all okb) ∧ wr = w) (fun s3 _ => n - (intOf s3).toNat)
      case atStart => exact ⟨0, rfl, by omega, hide rfl, rfl⟩
      case round =>
        obtain ⟨i, rfl, hi, hall, rfl⟩ := hrel
        by_cases hin : i < n
        · go_upto_region 6 with (fail)
          have hil : i < s.length := by rw [← hn.out]; exact hin
          obtain ⟨x, hx⟩ : ∃ x, x = s[i] := ⟨_, rfl⟩
          have hdr : (s.drop i).all okb = (okb x && (s.drop (i + 1)).all okb) := by rw [List.drop_eq_getElem_cons hil, List.all_cons, hx]
          obtain ⟨c, hc⟩ : ∃ c, c = x.toNat := ⟨_, rfl⟩
          have hcx : ((⟨s.toArray⟩ : ByteArray)[i]'(by rw [hsz]; exact hin)).toNat = c := by rw [hc, hx]; rfl
          have hc2 : c < 256 := by rw [hc]; exact x.toNat_lt
          have hcl : c < 45 ∨ c = 45 ∨ c = 46 ∨ c = 47 ∨ (48 ≤ c ∧ c ≤ 57) ∨ (58 ≤ c ∧ c ≤ 96) ∨ (97 ≤ c ∧ c ≤ 122) ∨ 122 < c := by omega
          have hok : okb x = ((97 ≤ c && c ≤ 122) || (48 ≤ c && c ≤ 57) || c == 45 || c == 46) := by unfold okb; rw [← hc]
          rw [hok] at hdr
          replace hdr := hide hdr
          replace hx := hide hx
          replace hc := hide hc
          clear hok
          have q1 : Hid (c ≠ 45 → ((c : Int) == 45) = false) := hide (fun h => beq_eq_false_iff_ne.2 (by omega))
          have q2 : Hid (c ≠ 46 → ((c : Int) == 46) = false) := hide (fun h => beq_eq_false_iff_ne.2 (by omega))
          rcases hcl with h | h | h | h | ⟨h, h'⟩ | ⟨h, h'⟩ | ⟨h, h'⟩ | h
          all_goals
            first
            | (have hd2 : Hid (s.all okb = (s.drop (i + 1)).all okb) := hide (by rw [hall.out, hdr.out, show ((97 ≤ c && c ≤ 122) || (48 ≤ c && c ≤ 57) || c == 45 || c == 46) = true by (simp only [Bool.or_eq_true, Bool.and_eq_true, decide_eq_true_eq, beq_iff_eq]; omega)]; exact Bool.true_and _)
               clear hdr
               try have g1 : c < 97 := by omega
               try have g2 : 97 ≤ c := by omega
               try have g3 : c ≤ 122 := by omega
               try have g4 : 122 < c := by omega
               try have g5 : c < 48 := by omega
               try have g6 : 48 ≤ c := by omega
               try have g7 : c ≤ 57 := by omega
               try have g8 : 57 < c := by omega
               try have g9 : decide ((c : Int) ≤ 57) = false := decide_eq_false (by omega)
               try have g0 : decide ((c : Int) ≤ 122) = false := decide_eq_false (by omega)
               try have q3 := q1.out (by omega)
               try have q4 := q2.out (by omega)
               try subst h
               go_wp2_with fail
               all_goals
                 go_roundw
                 case rel => exact ⟨i + 1, by go_num, by omega, hd2, trivial⟩
                 case measure => simp [intOf]; omega)
            | (have hd2 : Hid (s.all okb = false) := hide (by rw [hall.out, hdr.out, show ((97 ≤ c && c ≤ 122) || (48 ≤ c && c ≤ 57) || c == 45 || c == 46) = false by (rw [← Bool.not_eq_true]; simp only [Bool.or_eq_true, Bool.and_eq_true, decide_eq_true_eq, beq_iff_eq]; omega)]; exact Bool.false_and _)
               clear hdr
               try have g1 : c < 97 := by omega
               try have g2 : 97 ≤ c := by omega
               try have g3 : c ≤ 122 := by omega
               try have g4 : 122 < c := by omega
               try have g5 : c < 48 := by omega
               try have g6 : 48 ≤ c := by omega
               try have g7 : c ≤ 57 := by omega
               try have g8 : 57 < c := by omega
               try have g9 : decide ((c : Int) ≤ 57) = false := decide_eq_false (by omega)
               try have g0 : decide ((c : Int) ≤ 122) = false := decide_eq_false (by omega)
               try have q3 := q1.out (by omega)
               try have q4 := q2.out (by omega)
               try subst h
               go_wp2_with fail
               all_goals
                 go_ret
                 rw [hd2.out]
                 exact ⟨rfl, rfl⟩)
        · have hd2 : s.all okb = true := by
            rw [hall.out, List.drop_eq_nil_of_le (by rw [← hn.out]; omega)]
            rfl
          replace hd2 := hide hd2
          go_wp2_with fail
          go_ret
          rw [hd2.out]
          exact ⟨rfl, rfl⟩
end Go.Proofs.Yticnncgbfpgeaaa
