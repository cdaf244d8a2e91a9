/- loggialaw05: LzPacks, the walk. -/
import Derived.Test.YteofooecfedplaaLzAw
import Derived.Test.YteofooecfedplaaPlA
namespace Go.Proofs.Yteofooecfedplaa
open Go.RowKit

theorem rpack_len (A : Option Addr) (c n : Nat) (l : List UInt8) (w : World) (hn : n = l.length) (hl : Bs w A l) (hA : ∀ a, A = some a → a.block < w.heap.size) (hle : n ≤ 1048576) (hc : n ≤ c) :
    Calls Try.prog 9 #[.slice A n c] w fun e w' => ∃ A1 n1 c1, e = .returned (.tuple #[.slice A1 n1 c1, .int .i64 0]) ∧ n1 = (packM l).length ∧ Bs w' A1 (packM l) ∧ Ext w w' := by
  subst hn
  refine (rpack_any A c l w hl hA hle hc).mono ?_
  rintro e w' ⟨A1, n1, c1, rfl, hn1, ho, hE⟩
  subst hn1
  rw [pack_as_ref]
  exact ⟨A1, _, c1, rfl, rfl, Cells.of_own ho, hE⟩
set_option maxRecDepth 100000 in
set_option maxHeartbeats 1000000 in
theorem lzpacks_any (A : Option Addr) (n c : Nat) (l : List UInt8) (w : World) (i : Int) (hn : n = l.length) (hl : Bs w A l) (hA : ∀ a, A = some a → a.block < w.heap.size) (hc : n ≤ c) (hle : n ≤ 9223372036854775807)
    (hi1 : -9223372036854775808 ≤ i) (hi2 : i ≤ 9223372036854775807) :
    Calls Try.prog 3 #[.slice A n c, .int .i64 i] w fun e w' => e = .returned (.bool true) ∧ Ext w w' := by
  obtain ⟨m, hm⟩ : ∃ m, m = min n 1200 := ⟨_, rfl⟩
  obtain ⟨k, hk⟩ : ∃ k, k = l.take 1200 := ⟨_, rfl⟩
  have hmk : m = k.length := by rw [hk, List.length_take, hm, hn]; omega
  have hbk : Bs w A k := by rw [hk]; exact hl.take 1200
  have hm12 : m ≤ 1200 := by omega
  have hmc : m ≤ c := by omega
  have hcut := cut_any A c n m w hc hle hm
  replace hcut := hide hcut
  replace hm := hide hm
  replace hk := hide hk
  replace hmk := hide hmk
  clear hl hn
  obtain ⟨U, hU⟩ : ∃ U, U = packM k := ⟨_, rfl⟩
  have hUl : U.length ≤ m + 4 + (m + 127) / 128 := by rw [hU, hmk.out]; exact pack_most k
  obtain ⟨bm, hbm⟩ : ∃ b : Int, b = boundM (m : Int) := ⟨_, rfl⟩
  have hbm2 : (U.length : Int) ≤ bm := by
    rw [hbm]
    unfold boundM
    rw [if_neg (by omega)]
    omega
  obtain ⟨bi, hbi⟩ : ∃ b : Int, b = boundM i := ⟨_, rfl⟩
  replace hbi := hide hbi
  replace hbm := hide hbm
  replace hU := hide hU
  go_enter Try.func3, Try.ntmps3
  go_wp2_with fail
  refine hcut.out.mono ?_
  rintro e w0 ⟨rfl, rfl⟩
  go_wp2_with fail
  refine (pack_len A c m k w0 hmk.out hbk hA (by omega) hmc).mono ?_
  rintro e w1 ⟨A1, n1, c1, rfl, hn1, hc1, hb1, hlt1, hE1⟩
  rw [← hU.out] at hn1 hb1
  have hn1b : (n1 : Int) ≤ bm := by rw [hn1]; exact hbm2
  replace hn1 := hide hn1
  go_wp2_with fail
  refine (rpack_len A c m k w1 hmk.out (hbk.ext hE1) (fun a ha => Nat.lt_of_lt_of_le (hA a ha) hE1.size) (by omega) hmc).mono ?_
  rintro e w2 ⟨A2, n2, c2, rfl, hn2, hb2, hE2⟩
  rw [← hU.out] at hn2 hb2
  replace hn2 := hide hn2
  have s1 := run_str (hb1.ext hE2) n1 c1 hn1.out
  have s2 := run_str hb2 n2 c2 hn2.out
  obtain ⟨S, hS⟩ : ∃ S : ByteArray, S = ⟨U.toArray⟩ := ⟨_, rfl⟩
  rw [← hS] at s1 s2
  have haw := awake_any w2
  have b1 := bound_any i w2 hi1 hi2
  have b2 := rbound_any i w2 hi1 hi2
  have b3 := bound_any m w2 (by omega) (by omega)
  rw [← hbi.out] at b1 b2
  rw [← hbm.out] at b3
  replace haw := hide haw
  replace b1 := hide b1
  replace b2 := hide b2
  replace b3 := hide b3
  replace hS := hide hS
  go_wp2_with fail
  refine b1.out.mono ?_
  rintro e w3 ⟨rfl, rfl⟩
  go_wp2_with fail
  refine b2.out.mono ?_
  rintro e w3 ⟨rfl, rfl⟩
  go_wp2_with fail
  refine b3.out.mono ?_
  rintro e w3 ⟨rfl, rfl⟩
  go_wp2_with fail
  refine haw.out.mono ?_
  rintro e w5 ⟨rfl, hE5⟩
  go_wp2_with fail
  go_ret
  exact ⟨rfl, hE1.trans (hE2.trans hE5)⟩
end Go.Proofs.Yteofooecfedplaa
