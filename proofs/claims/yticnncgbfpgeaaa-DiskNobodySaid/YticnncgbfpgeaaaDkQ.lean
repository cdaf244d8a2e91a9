/- loggia/disk: Append. -/
import Derived.Test.YticnncgbfpgeaaaDkP
namespace Go.Proofs.Yticnncgbfpgeaaa
open Go.RowKit Go.Maps

theorem append_no {P : PD} {s b : List UInt8} {k : Nat} (hk : appendM P s b = (P, k)) {base d : Nat} {F : Nat → Prop} {w w1 : World} (h : DS w base d P F) (hE : Ext w w1) : ∀ e, e = Ending.returned (.int .i64 k) → e = .returned (.int .i64 (appendM P s b).2) ∧ DNext base d F w (appendM P s b).1 w1 := by
  rw [hk]
  exact fun e he => ⟨he, F, h.ext hE, Chg.of_ext hE F, fun k hk => .inl hk⟩
set_option maxRecDepth 100000 in
set_option maxHeartbeats 1000000 in
theorem append_bad (base d : Nat) (P : PD) (F : Nat → Prop) (s b : List UInt8) (B : Option Addr) (n c : Nat) (w : World) (h : DS w base d P F) (hs : s.length ≤ 9223372036854775807) (hbad : namedM s = false ∨ P.stopped = true) :
    Calls Try.prog 10 #[.pointer (some ⟨d, 0, none⟩), str s, .slice B n c] w fun e w' => e = .returned (.int .i64 (appendM P s b).2) ∧ DNext base d F w (appendM P s b).1 w' := by
  have hmay := may_one base d P F s w h hs
  have hE : Ext w (oneW w s) := (Ext.refl w).alloc _
  obtain ⟨k, hk, hm⟩ : ∃ k : Nat, appendM P s b = (P, k) ∧ mayM [s] P.stopped = k ∧ 0 < k := by
    unfold appendM
    cases hn : namedM s with
    | false => exact ⟨60, rfl, may_bad _ hn, by omega⟩
    | true =>
      rcases hbad with hbad | hbad
      · rw [hn] at hbad; cases hbad
      · rw [hbad]
        exact ⟨63, rfl, may_stop hn, by omega⟩
  rw [hm.1] at hmay
  have hkp := hm.2
  have fin := append_no hk h hE
  have hkd : decide ((k : Int) = 0) = false := decide_eq_false (by omega)
  clear hm hk h
  replace hmay := hide hmay
  replace fin := hide fin
  unfold str
  go_enter Try.func10, Try.ntmps10
  go_wp2_with fail
  refine hmay.out.mono ?_
  rintro e w1 ⟨rfl, rfl⟩
  go_wp2_with fail
  go_ret
  exact fin.out _ rfl
end Go.Proofs.Yticnncgbfpgeaaa
