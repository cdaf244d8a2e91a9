/- loggialaw05: LzUnpacks, the walk. -/
import Derived.Test.YteofooecfedplaaLzAw
namespace Go.Proofs.Yteofooecfedplaa
open Go.RowKit

set_option maxRecDepth 100000 in
set_option maxHeartbeats 1000000 in
theorem lzunpacks_any (A : Option Addr) (n c : Nat) (l : List UInt8) (w : World) (hn : n = l.length) (hl : Bs w A l) (hA : ∀ a, A = some a → a.block < w.heap.size) (hc : n ≤ c) (hle : n ≤ 9223372036854775807) :
    Calls Try.prog 4 #[.slice A n c] w fun e w' => e = .returned (.bool true) ∧ Ext w w' := by
  obtain ⟨m, hm⟩ : ∃ m, m = min n 1200 := ⟨_, rfl⟩
  obtain ⟨k, hk⟩ : ∃ k, k = l.take 1200 := ⟨_, rfl⟩
  have hmk : m = k.length := by rw [hk, List.length_take, hm, hn]; omega
  have hbk : Bs w A k := by rw [hk]; exact hl.take 1200
  have hm12 : m ≤ 1200 := by omega
  have hmc : m ≤ c := by omega
  have hcut := cut_any A c n m w hc hle hm
  replace hcut := hide hcut
  replace hm := hide hm
  replace hk := hide hk
  replace hmk := hide hmk
  clear hl hn
  go_enter Try.func4, Try.ntmps4
  go_wp2_with fail
  refine hcut.out.mono ?_
  rintro e w0 ⟨rfl, rfl⟩
  obtain ⟨U, hU⟩ : ∃ U, U = (upM k).1 := ⟨_, rfl⟩
  obtain ⟨er, her⟩ : ∃ U, U = (upM k).2 := ⟨_, rfl⟩
  obtain ⟨z1, hz1⟩ : ∃ U, U = (sizeM k).1 := ⟨_, rfl⟩
  obtain ⟨z2, hz2⟩ : ∃ U, U = (sizeM k).2 := ⟨_, rfl⟩
  go_wp2_with fail
  refine (unpack_any A c m k w0 hmk.out hbk hA (by omega) hmc).mono ?_
  rintro e w1 ⟨A1, n1, c1, rfl, hn1, hb1, hE1⟩
  rw [← hU] at hn1 hb1
  rw [← her]
  replace hn1 := hide hn1
  go_wp2_with fail
  refine (runpack_any A c m k w1 hmk.out (hbk.ext hE1) (fun a ha => Nat.lt_of_lt_of_le (hA a ha) hE1.size) (by omega) hmc).mono ?_
  rintro e w2 ⟨A2, n2, c2, rfl, hn2, hb2, hE2⟩
  rw [← hU] at hn2 hb2
  rw [← her]
  replace hn2 := hide hn2
  go_wp2_with fail
  have hs := size_any A c k w2 (hbk.ext (hE1.trans hE2)) (by rw [← hmk.out]; omega)
  rw [← hmk.out] at hs
  refine hs.mono ?_
  rintro e w3 ⟨rfl, hE3⟩
  rw [← hz1, ← hz2]
  go_wp2_with fail
  have hs := rsize_any A c k w3 (hbk.ext (hE1.trans (hE2.trans hE3))) (by rw [← hmk.out]; omega)
  rw [← hmk.out] at hs
  refine hs.mono ?_
  rintro e w4 ⟨rfl, hE4⟩
  rw [← hz1, ← hz2]
  have s1 := run_str (((hb1.ext hE2).ext hE3).ext hE4) n1 c1 hn1.out
  have s2 := run_str ((hb2.ext hE3).ext hE4) n2 c2 hn2.out
  obtain ⟨S, hS⟩ : ∃ S : ByteArray, S = ⟨U.toArray⟩ := ⟨_, rfl⟩
  rw [← hS] at s1 s2
  have haw := awake_any w4
  replace haw := hide haw
  replace hS := hide hS
  replace hU := hide hU
  replace her := hide her
  replace hz1 := hide hz1
  replace hz2 := hide hz2
  go_wp2_with fail
  refine haw.out.mono ?_
  rintro e w5 ⟨rfl, hE5⟩
  go_wp2_with fail
  go_ret
  exact ⟨rfl, hE1.trans (hE2.trans (hE3.trans (hE4.trans hE5)))⟩
end Go.Proofs.Yteofooecfedplaa
