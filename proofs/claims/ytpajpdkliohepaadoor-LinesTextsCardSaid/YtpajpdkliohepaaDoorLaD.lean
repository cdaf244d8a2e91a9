/- loggialaw31: LinesTexts, walked. -/
import Derived.Test.YtpajpdkliohepaaDoorLrE
namespace Go.Proofs.YtpajpdkliohepaaDoor
open Go.RowKit

theorem readR_len : ∀ {ls : List (List UInt8)} {n : Nat} {es : List Ev}, readR n ls = .ok es → es.length ≤ ls.length
  | [], n, es, h => by
    unfold readR at h
    injection h with h
    rw [← h]
    exact Nat.le_refl _
  | s :: ss, n, es, h => by
    unfold readR at h
    rw [List.length_cons]
    split at h
    · have := readR_len h; omega
    · split at h
      · cases h
      · split at h
        · rename_i hr
          injection h with h
          rw [← h, List.length_cons]
          have := readR_len hr
          omega
        · cases h
/-- What the two Reads answer together: alike. -/
theorem ReadP.both {w w' v v' : World} {text : List UInt8} {e1 e2 : Ending} (h : ReadP w text e1 w') (k : ReadP v text e2 v') : Ext w w' ∧ Ext v v' ∧ ∃ (l m : List EvC) (A B : Option Addr) (c d : Nat) (n : Nat) (x : Int), e1 = .returned (.tuple #[.slice A l.length c, .int .i64 (n : Int), .int .i64 x]) ∧ e2 = .returned (.tuple #[.slice B m.length d, .int .i64 (n : Int), .int .i64 x]) ∧ EvsOk w' A l ∧ EvsOk v' B m ∧ l.map (·.e) = m.map (·.e) ∧ l.length ≤ text.length + 1 := by
  obtain ⟨hE, h⟩ := h
  obtain ⟨kE, k⟩ := k
  refine ⟨hE, kE, ?_⟩
  rcases h with ⟨l, A, c, h1, rfl, h3⟩ | ⟨n, h1, rfl⟩ <;> rcases k with ⟨m, B, d, k1, rfl, k3⟩ | ⟨n', k1, rfl⟩
  · rw [h1] at k1
    injection k1 with k1
    have hlen := readR_len h1
    rw [List.length_map, linesL_len] at hlen
    have := List.count_le_length (a := (10 : UInt8)) (l := text)
    exact ⟨l, m, A, B, c, d, 0, 0, rfl, rfl, h3, k3, k1, by omega⟩
  · rw [h1] at k1; cases k1
  · rw [h1] at k1; cases k1
  · rw [h1] at k1
    injection k1 with k1
    subst k1
    exact ⟨[], [], none, none, 0, 0, n, 310, rfl, rfl, EvsOk.nil _ _, EvsOk.nil _ _, rfl, by simp⟩
theorem ints_of_few {l l' : List EvC} (h : l'.map (·.e) = fewL (l.map (·.e))) (ha : ∀ x ∈ l, I64ok' x.e.at_) : ∀ x ∈ l', I64ok' x.e.at_ := fun x hx => by
  have h1 : x.e ∈ l'.map (·.e) := List.mem_map.2 ⟨x, hx, rfl⟩
  rw [h] at h1
  unfold fewL at h1
  obtain ⟨e, he, h2⟩ := List.mem_map.1 h1
  obtain ⟨y, hy, rfl⟩ := List.mem_map.1 (List.mem_of_mem_take he)
  rw [← h2]
  exact ha y hy
set_option maxRecDepth 100000 in
set_option maxHeartbeats 4000000 in
theorem texts_any (l0 : List EvC) (A0 : Option Addr) (c0 : Nat) (text0 : List UInt8) (w : World) (hok : EvsOk w A0 l0) (hn : l0.length ≤ 9223372036854775807) (hat : ∀ x ∈ l0, I64ok' x.e.at_) (hl : text0.length ≤ 9223372036854775807) (hv : Vars w) :
    Calls Tryd.prog 5 #[.slice A0 l0.length c0, .string ⟨text0.toArray⟩] w fun en w' => en = .returned (.bool true) ∧ Ext w w' := by
  have hfew := hide (few_any l0 A0 c0 w hok hn)
  have hcut := hide (fun W => cut_any text0 W hl)
  obtain ⟨t, ht⟩ : ∃ t, t = text0.take 3000 := ⟨_, rfl⟩
  have htl : t.length ≤ 3000 := by rw [ht, List.length_take]; omega
  rw [← ht] at hcut
  obtain ⟨n0, hn0⟩ : ∃ n0, n0 = l0.length := ⟨_, rfl⟩
  rw [← hn0] at hfew ⊢
  replace hv := hide hv
  clear ht hn0
  go_enter Tryd.func5, Tryd.ntmps5
  go_wp2_with fail
  refine hfew.out.mono ?_
  rintro en w1 ⟨A, l, c, rfl, hE1, hok1, hm1, hl20⟩
  have hat1 := ints_of_few hm1 hat
  have hall := fun W hE => all_any l A c W (hok1.ext hE) hl20 hat1 (hv.out.ext (hE1.trans hE)).tabs
  have hrall := fun W hE => rall_any l A c W (hok1.ext hE) hl20 hat1
  unfold AllP at hall hrall
  obtain ⟨P, hP⟩ : ∃ P, P = allR (l.map (·.e)) := ⟨_, rfl⟩
  rw [← hP] at hall hrall
  obtain ⟨T, k⟩ := P
  simp only at hall hrall
  obtain ⟨n, hn1⟩ : ∃ n, n = l.length := ⟨_, rfl⟩
  rw [← hn1] at hall hrall ⊢
  replace hall := hide hall
  replace hrall := hide hrall
  clear hP hn1 hm1
  go_wp2_with fail
  refine (hcut.out _).mono ?_
  rintro en w2 ⟨rfl, rfl⟩
  go_wp2_with fail
  refine (hall.out _ (Ext.refl _)).mono ?_
  rintro en w3 ⟨rfl, hE3⟩
  go_wp2_with fail
  refine (hrall.out _ hE3).mono ?_
  rintro en w4 ⟨rfl, hE4⟩
  have hE04 := hide (hE1.trans (hE3.trans hE4))
  have hrd := hide (read_any t w4 (by omega) (hv.out.ext hE04.out))
  clear hE3 hE4 hE1
  go_wp2_with fail
  refine hrd.out.mono ?_
  rintro en w5 hr5
  have hrd2 := hide (rread_any t w5 (by omega))
  have hr5' := hr5
  obtain ⟨hE5, hr5⟩ := hr5
  have hshape : ∃ (A' : Option Addr) (n' c' : Nat) (q x : Int), en = .returned (.tuple #[.slice A' n' c', .int .i64 q, .int .i64 x]) := by
    rcases hr5 with ⟨l', A', c', _, rfl, _⟩ | ⟨m', _, rfl⟩
    · exact ⟨A', l'.length, c', 0, 0, rfl⟩
    · exact ⟨none, 0, 0, m', 310, rfl⟩
  obtain ⟨A', n', c', q, x, rfl⟩ := hshape
  replace hr5' := hide hr5'
  clear hr5
  go_wp2_with fail
  refine hrd2.out.mono ?_
  rintro en w6 hr6
  obtain ⟨_, hE6, l1, m1, B1, B2, c1, c2, n1, x1, h1, rfl, hok5, hok6, hlm, hlen⟩ := hr5'.out.both hr6
  injection h1 with h1
  injection h1 with h1
  have h1l := congrArg Array.toList h1
  simp only at h1l
  injection h1l with e1 h1l
  injection h1l with e2 h1l
  injection h1l with e3 h1l
  injection e1 with e1a e1b e1c
  injection e2 with _ e2
  injection e3 with _ e3
  subst e1a e1b e1c e2 e3
  have hE06 := hide (hE04.out.trans (hE5.trans hE6))
  have hlen1 : l1.length ≤ 9223372036854775807 := by omega
  have hsm := hide (sameall_any l1 m1 A' B2 c' c2 w6 (hok5.ext hE6) hok6 hlm hlen1)
  clear h1 hr6 hr5' hE5 hE6
  go_wp2_with fail
  refine hsm.out.mono ?_
  rintro en w7 ⟨rfl, hE7⟩
  have haw := hide (awake_any w7 (hv.out.ext (hE06.out.trans hE7)))
  go_wp2_with fail
  refine haw.out.mono ?_
  rintro en w8 ⟨rfl, hE8⟩
  go_wp2_with fail
  go_ret
  exact ⟨rfl, hE06.out.trans (hE7.trans hE8)⟩
end Go.Proofs.YtpajpdkliohepaaDoor
