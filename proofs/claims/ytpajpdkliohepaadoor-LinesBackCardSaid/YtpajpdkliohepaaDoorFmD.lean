/- loggiaref31: number. -/
import Derived.Test.YtpajpdkliohepaaDoorFmC
namespace Go.Proofs.YtpajpdkliohepaaDoor
open Go.RowKit

def isDig (c : UInt8) : Bool := decide (48 ≤ c.toNat ∧ c.toNat ≤ 57)
/-- The value of digits. -/
def digV (l : List UInt8) : Nat := l.foldl (fun v c => 10 * v + (c.toNat - 48)) 0
theorem digV_snoc (l : List UInt8) (c : UInt8) : digV (l ++ [c]) = 10 * digV l + (c.toNat - 48) := by
  unfold digV
  rw [List.foldl_append]
  rfl
theorem w64 (x : Int) : wrap64 x % 18446744073709551616 = x % 18446744073709551616 := by
  unfold wrap64
  omega
theorem w64_congr {x y : Int} (h : x % 18446744073709551616 = y % 18446744073709551616) : wrap64 x = wrap64 y := by
  unfold wrap64
  rw [Int.add_emod x, Int.add_emod y, h]
theorem w64_step (V d : Int) : wrap64 (10 * V + d) = wrap64 (wrap64 (10 * wrap64 V) + d) := by
  refine w64_congr ?_
  rw [Int.add_emod (wrap64 (10 * wrap64 V)), w64, ← Int.add_emod, Int.add_emod (10 * wrap64 V), Int.mul_emod, w64, ← Int.mul_emod, ← Int.add_emod]
theorem w64_range (x : Int) : -9223372036854775808 ≤ wrap64 x ∧ wrap64 x ≤ 9223372036854775807 := by
  unfold wrap64
  omega
/-- What number answers: how far digits go, and their value. -/
def NumP (s : List UInt8) (e : Ending) : Prop := ∃ (a0 i : Nat) (n : Int), e = .returned (.tuple #[.int .i64 n, .int .i64 ((a0 + i : Nat) : Int)]) ∧ a0 + i ≤ s.length ∧ (-9223372036854775808 ≤ n ∧ n ≤ 9223372036854775807) ∧
  (a0 = 1 ∧ s.head? = some 45 ∧ n = wrap64 (-(wrap64 (digV ((s.drop a0).take i)))) ∨ a0 = 0 ∧ s.head? ≠ some 45 ∧ n = wrap64 (digV ((s.drop a0).take i))) ∧ (∀ c ∈ (s.drop a0).take i, isDig c = true) ∧ ∀ d, s[a0 + i]? = some d → a0 + i < 20 → isDig d = false
set_option maxRecDepth 100000 in
set_option maxHeartbeats 4000000 in
theorem rnumber_any (s : List UInt8) (w : World) (hs : s.length ≤ 1000000) : Calls Tryd.prog 33 #[.string ⟨s.toArray⟩] w fun e w' => NumP s e ∧ w' = w := by
  cases s with
  | nil =>
    have q : NumP [] (.returned (.tuple #[.int .i64 0, .int .i64 0])) := ⟨0, 0, 0, rfl, by simp, by omega, .inr ⟨rfl, by simp, by simp [digV, wrap64]⟩, by simp, by simp⟩
    replace q := hide q
    go_enter Tryd.func33, Tryd.ntmps33
    go_wp2_with fail
    go_loopw [4, 6] (fun s4 s6 wr => s4 = .int .i64 0 ∧ s6 = .int .i64 0 ∧ wr = w) (fun _ _ _ => 0)
    case atStart => exact ⟨rfl, rfl, rfl⟩
    case round =>
      obtain ⟨rfl, rfl, rfl⟩ := hrel
      go_wp2_with fail
      go_ret2
      exact ⟨q.out, rfl⟩
  | cons x r =>
    have hr0 := fun W => run_strindex (l := x :: r) (i := 0) (b := x) rfl (z := 0) rfl W
    obtain ⟨S, hS⟩ : ∃ S, S = x :: r := ⟨_, rfl⟩
    have h0 : 0 < S.length := by rw [hS]; simp
    rw [← hS] at hr0 hs ⊢
    replace hS := hide hS
    by_cases h45 : x.toNat = 45
    · obtain rfl : x = 45 := UInt8.toNat_inj.1 h45
      rw [show ((45 : UInt8).toNat : Int) = 45 from rfl] at hr0
      have hhead := hide (show S.head? = some 45 by rw [hS.out]; rfl)
      obtain ⟨a0, ha0⟩ : ∃ a0, a0 = 1 := ⟨_, rfl⟩
      replace ha0 := hide ha0
      clear h45
      go_enter Tryd.func33, Tryd.ntmps33
      go_wp2_with fail
      go_loopw [4, 6] (fun s4 s6 wr => ∃ (p i : Nat) (n : Int), s4 = .int .i64 (p : Int) ∧ s6 = .int .i64 n ∧ p ≤ S.length ∧ p ≤ 20 ∧ Hid (p = a0 + i) ∧ (-9223372036854775808 ≤ n ∧ n ≤ 9223372036854775807) ∧ Hid (n = wrap64 (digV ((S.drop a0).take i))) ∧ Hid (∀ c ∈ (S.drop a0).take i, isDig c = true) ∧ wr = w) (fun s4 _ _ => S.length - (intOf s4).toNat)
      case atStart => exact ⟨a0, 0, 0, by rw [ha0.out]; rfl, rfl, by have := ha0.out; omega, by have := ha0.out; omega, hide rfl, by omega, hide (by simp [digV, wrap64]), hide (by simp), rfl⟩
      case round =>
        obtain ⟨p, i, n, rfl, rfl, hi, hi20, hp, hnb, hn, hdg, rfl⟩ := hrel
        have fin : (∀ d, S[p]? = some d → p < 20 → isDig d = false) → NumP S (.returned (.tuple #[.int .i64 (wrap64 (-n)), .int .i64 (p : Int)])) := fun h => by
          have hpo := hp.out
          refine ⟨a0, i, wrap64 (-n), by rw [← hpo], by rw [← hpo]; exact hi, w64_range _, .inl ⟨ha0.out, hhead.out, by rw [hn.out]⟩, hdg.out, by rw [← hpo]; exact h⟩
        replace fin := hide fin
        by_cases hin : p < S.length
        · have hsi : S[p]? = some S[p] := List.getElem?_eq_getElem hin
          have hrun := fun W => run_strindex hsi (z := (p : Int)) rfl W
          obtain ⟨c, hc⟩ : ∃ c, c = S[p] := ⟨_, rfl⟩
          rw [← hc] at hsi hrun
          have hsd : (S.drop a0)[i]? = some c := by rw [List.getElem?_drop, ← hp.out]; exact hsi
          have htk := take_one2 hsd
          have hc8 := c.toNat_lt
          have hval : 48 ≤ c.toNat → wrap64 (digV ((S.drop a0).take (i + 1))) = wrap64 (wrap64 (10 * n) + ((c.toNat : Int) - 48)) := fun h => by
            rw [htk, digV_snoc, hn.out, ← w64_step]
            congr 1
            omega
          have hdig : 48 ≤ c.toNat → c.toNat ≤ 57 → ∀ d ∈ (S.drop a0).take (i + 1), isDig d = true := fun h1 h2 d hd => by
            rw [htk] at hd
            rcases List.mem_append.1 hd with hd | hd
            · exact hdg.out d hd
            · obtain rfl : d = c := by simpa using hd
              exact decide_eq_true ⟨h1, h2⟩
          have hstop : ¬ (p < 20 ∧ 48 ≤ c.toNat ∧ c.toNat ≤ 57) → ∀ d, S[p]? = some d → p < 20 → isDig d = false := fun h d hd hlt => by
            rw [hsi] at hd
            obtain rfl := Option.some.inj hd
            exact decide_eq_false fun hh => h ⟨hlt, hh⟩
          replace hval := hide hval
          replace hdig := hide hdig
          replace hstop := hide hstop
          clear hsd htk hc hsi
          go_wp2_with fail
          all_goals first
            | (have q : 48 ≤ c.toNat ∧ c.toNat ≤ 57 := by omega
               have hv := hide (hval.out q.1).symm
               have hd := hide (hdig.out q.1 q.2)
               have hp2 := hide (show p + 1 = a0 + (i + 1) by rw [hp.out]; omega)
               go_roundw
               case rel => exact ⟨p + 1, i + 1, _, by go_num, rfl, by omega, by omega, hp2, w64_range _, hide (hv.out), hd, trivial⟩
               case measure => simp [intOf]; omega)
            | (have q := fin.out (hstop.out (by omega))
               replace q := hide q
               go_ret2
               exact ⟨q.out, rfl⟩)
        · have q := fin.out (fun d hd => by rw [List.getElem?_eq_none (by omega)] at hd; cases hd)
          replace q := hide q
          go_wp2_with fail
          go_ret2
          exact ⟨q.out, rfl⟩
    · have hhead := hide (show S.head? ≠ some 45 by rw [hS.out]; intro h; injection h with h; exact h45 (by rw [h]; rfl))
      have hx : ((x.toNat : Int) == 45) = false := beq_eq_false_iff_ne.2 (by omega)
      obtain ⟨a0, ha0⟩ : ∃ a0, a0 = 0 := ⟨_, rfl⟩
      replace ha0 := hide ha0
      go_enter Tryd.func33, Tryd.ntmps33
      go_wp2_with fail
      go_loopw [4, 6] (fun s4 s6 wr => ∃ (p i : Nat) (n : Int), s4 = .int .i64 (p : Int) ∧ s6 = .int .i64 n ∧ p ≤ S.length ∧ p ≤ 20 ∧ Hid (p = a0 + i) ∧ (-9223372036854775808 ≤ n ∧ n ≤ 9223372036854775807) ∧ Hid (n = wrap64 (digV ((S.drop a0).take i))) ∧ Hid (∀ c ∈ (S.drop a0).take i, isDig c = true) ∧ wr = w) (fun s4 _ _ => S.length - (intOf s4).toNat)
      case atStart => exact ⟨a0, 0, 0, by rw [ha0.out]; rfl, rfl, by have := ha0.out; omega, by have := ha0.out; omega, hide rfl, by omega, hide (by simp [digV, wrap64]), hide (by simp), rfl⟩
      case round =>
        obtain ⟨p, i, n, rfl, rfl, hi, hi20, hp, hnb, hn, hdg, rfl⟩ := hrel
        have fin : (∀ d, S[p]? = some d → p < 20 → isDig d = false) → NumP S (.returned (.tuple #[.int .i64 (n), .int .i64 (p : Int)])) := fun h => by
          have hpo := hp.out
          refine ⟨a0, i, n, by rw [← hpo], by rw [← hpo]; exact hi, hnb, .inr ⟨ha0.out, hhead.out, hn.out⟩, hdg.out, by rw [← hpo]; exact h⟩
        replace fin := hide fin
        by_cases hin : p < S.length
        · have hsi : S[p]? = some S[p] := List.getElem?_eq_getElem hin
          have hrun := fun W => run_strindex hsi (z := (p : Int)) rfl W
          obtain ⟨c, hc⟩ : ∃ c, c = S[p] := ⟨_, rfl⟩
          rw [← hc] at hsi hrun
          have hsd : (S.drop a0)[i]? = some c := by rw [List.getElem?_drop, ← hp.out]; exact hsi
          have htk := take_one2 hsd
          have hc8 := c.toNat_lt
          have hval : 48 ≤ c.toNat → wrap64 (digV ((S.drop a0).take (i + 1))) = wrap64 (wrap64 (10 * n) + ((c.toNat : Int) - 48)) := fun h => by
            rw [htk, digV_snoc, hn.out, ← w64_step]
            congr 1
            omega
          have hdig : 48 ≤ c.toNat → c.toNat ≤ 57 → ∀ d ∈ (S.drop a0).take (i + 1), isDig d = true := fun h1 h2 d hd => by
            rw [htk] at hd
            rcases List.mem_append.1 hd with hd | hd
            · exact hdg.out d hd
            · obtain rfl : d = c := by simpa using hd
              exact decide_eq_true ⟨h1, h2⟩
          have hstop : ¬ (p < 20 ∧ 48 ≤ c.toNat ∧ c.toNat ≤ 57) → ∀ d, S[p]? = some d → p < 20 → isDig d = false := fun h d hd hlt => by
            rw [hsi] at hd
            obtain rfl := Option.some.inj hd
            exact decide_eq_false fun hh => h ⟨hlt, hh⟩
          replace hval := hide hval
          replace hdig := hide hdig
          replace hstop := hide hstop
          clear hsd htk hc hsi
          go_wp2_with fail
          all_goals first
            | (have q : 48 ≤ c.toNat ∧ c.toNat ≤ 57 := by omega
               have hv := hide (hval.out q.1).symm
               have hd := hide (hdig.out q.1 q.2)
               have hp2 := hide (show p + 1 = a0 + (i + 1) by rw [hp.out]; omega)
               go_roundw
               case rel => exact ⟨p + 1, i + 1, _, by go_num, rfl, by omega, by omega, hp2, w64_range _, hide (hv.out), hd, trivial⟩
               case measure => simp [intOf]; omega)
            | (have q := fin.out (hstop.out (by omega))
               replace q := hide q
               go_ret2
               exact ⟨q.out, rfl⟩)
        · have q := fin.out (fun d hd => by rw [List.getElem?_eq_none (by omega)] at hd; cases hd)
          replace q := hide q
          go_wp2_with fail
          go_ret2
          exact ⟨q.out, rfl⟩
end Go.Proofs.YtpajpdkliohepaaDoor
