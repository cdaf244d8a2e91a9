/- loggialaw31: LinesQuote, walked. -/
import Derived.Test.YtpajpdkliohepaaDoorLaB
namespace Go.Proofs.YtpajpdkliohepaaDoor
open Go.RowKit

set_option maxRecDepth 100000 in
set_option maxHeartbeats 4000000 in
theorem quotes_any (s0 t0 : List UInt8) (w : World) (hs0 : s0.length ≤ 9223372036854775807) (ht0 : t0.length ≤ 9223372036854775807) (hv : Vars w) :
    Calls Tryd.prog 4 #[.string ⟨s0.toArray⟩, .string ⟨t0.toArray⟩] w fun en w' => en = .returned (.bool true) ∧ Ext w w' := by
  have hcs := hide (fun W => cut_any s0 W hs0)
  have hct := hide (fun W => cut_any t0 W ht0)
  obtain ⟨s, hs⟩ : ∃ s, s = s0.take 3000 := ⟨_, rfl⟩
  obtain ⟨t, ht⟩ : ∃ t, t = t0.take 3000 := ⟨_, rfl⟩
  have hsl : s.length ≤ 3000 := by rw [hs, List.length_take]; omega
  have htl : t.length ≤ 3000 := by rw [ht, List.length_take]; omega
  rw [← hs] at hcs
  rw [← ht] at hct
  have hqu := fun W => quote_any s W (by omega)
  have hrq := fun W => rquote_any s W (by omega)
  have hql := quote_len s
  have hqr : ∀ x ∈ quoteL s, 32 ≤ x.toNat ∧ x.toNat ≤ 126 := fun x hx => quote_range hx
  have hUQ := UQ.quote s t
  obtain ⟨q, hq⟩ : ∃ q, q = quoteL s := ⟨_, rfl⟩
  rw [← hq] at hqu hrq hql hqr hUQ
  have hun := fun W => unquote_any t W (by omega)
  have hrun := fun W => runquote_any t W (by omega)
  have hun2 := fun W => unquote_any (q ++ t) W (by rw [List.length_append]; omega)
  rw [← cat2] at hun2
  have hcat : q.length + t.length ≤ 9223372036854775807 := by omega
  have hqb : q.length ≤ 20000 := by omega
  replace hqu := hide hqu
  replace hrq := hide hrq
  replace hun := hide hun
  replace hrun := hide hrun
  replace hun2 := hide hun2
  replace hUQ := hide hUQ
  replace hqr := hide hqr
  replace hv := hide hv
  clear hs ht hq hql
  go_enter Tryd.func4, Tryd.ntmps4
  go_wp2_with fail
  refine (hcs.out _).mono ?_
  rintro en w1 ⟨rfl, rfl⟩
  go_wp2_with fail
  refine (hct.out _).mono ?_
  rintro en w2 ⟨rfl, rfl⟩
  go_wp2_with fail
  refine (hqu.out _).mono ?_
  rintro en w3 ⟨rfl, hE3⟩
  go_wp2_with fail
  refine (hun.out _).mono ?_
  rintro en w4 ⟨u, n, ok, rfl, hu, hE4⟩
  go_wp2_with fail
  refine (hrun.out _).mono ?_
  rintro en w5 ⟨u', n', ok', rfl, hu', hE5⟩
  obtain ⟨rfl, rfl, rfl⟩ := hu.unique hu'
  have hE25 := hide ((hE3.trans hE4).trans hE5)
  clear hu hu' hE3 hE4 hE5
  go_wp2_with fail
  refine (hun2.out _).mono ?_
  rintro en w6 ⟨x, m, ok2, rfl, hx, hE6⟩
  obtain ⟨rfl, rfl, rfl⟩ := hx.unique hUQ.out
  have hE26 := hide (hE25.out.trans hE6)
  clear hx hE6
  go_wp2_with fail
  go_loopw [15] (fun s15 wr => ∃ i : Nat, s15 = .int .i64 (i : Int) ∧ i ≤ q.length ∧ wr = w6) (fun s15 _ => q.length - (intOf s15).toNat)
  case atStart => exact ⟨0, rfl, by omega, rfl⟩
  case round =>
    obtain ⟨i, rfl, hi, rfl⟩ := hrel
    by_cases hin : i < q.length
    · obtain ⟨x, hx⟩ : ∃ x, q[i]? = some x := ⟨_, List.getElem?_eq_getElem hin⟩
      have hrun := fun W => run_strindex hx (z := (i : Int)) rfl W
      obtain ⟨h32, h126⟩ := hqr.out x (List.mem_of_getElem? hx)
      have h1 : ¬ (x.toNat : Int) < 32 := by omega
      have h2 : ¬ (126 : Int) < x.toNat := by omega
      clear hx
      go_wp2_with fail
      go_roundw
      case rel => exact ⟨i + 1, by go_num, by omega, trivial⟩
      case measure => simp [intOf]; omega
    · go_wp2_with fail
      refine (hrq.out _).mono ?_
      rintro en w7 ⟨rfl, hE7⟩
      have haw := hide (awake_any w7 (hv.out.ext (hE26.out.trans hE7)))
      go_wp2_with fail
      refine haw.out.mono ?_
      rintro en w8 ⟨rfl, hE8⟩
      go_wp2_with fail
      go_ret
      exact ⟨rfl, hE26.out.trans (hE7.trans hE8)⟩
end Go.Proofs.YtpajpdkliohepaaDoor
