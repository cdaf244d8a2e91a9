/- loggialaw05: LzBack, the walk. -/
import Derived.Test.YteofooecfedplaaLzAw
import Derived.Test.YteofooecfedplaaPlB
namespace Go.Proofs.Yteofooecfedplaa
open Go.RowKit

theorem own_cap {w : World} {base : Nat} {e : TypeId} {size n c : Nat} {A : Option Addr} {xs : List Value} (ho : w.ownsRow base e size (.slice A n c) n xs) : n ≤ c := by
  rcases ho.2 with ⟨hv, h0⟩ | ⟨g, cap, cur, hv, hb, hg, hnc, _⟩
  · injection hv with _ h1 h2
    omega
  · injection hv with _ _ h2
    omega
theorem unpack_pack (A : Option Addr) (n c : Nat) (l : List UInt8) (w : World) (hn : n = (packM l).length) (hl : Bs w A (packM l)) (hA : ∀ a, A = some a → a.block < w.heap.size) (hc : n ≤ c) (hle : l.length ≤ 10000) :
    Calls Try.prog 13 #[.slice A n c] w fun e w' => ∃ A1 n1 c1, e = .returned (.tuple #[.slice A1 n1 c1, .int .i64 0]) ∧ n1 = l.length ∧ Bs w' A1 l ∧ Ext w w' := by
  have hm := pack_most l
  refine (unpack_any A c n (packM l) w hn hl hA (by omega) hc).mono ?_
  rintro e w' ⟨A1, n1, c1, rfl, hn1, hb, hE⟩
  rw [up_pack (by omega)] at hn1 hb ⊢
  exact ⟨A1, n1, c1, rfl, hn1, hb, hE⟩
theorem size_of_pack (A : Option Addr) (n c : Nat) (l : List UInt8) (w : World) (hn : n = (packM l).length) (hl : Bs w A (packM l)) (hle : l.length ≤ 10000) :
    Calls Try.prog 15 #[.slice A n c] w fun e w' => e = .returned (.tuple #[.int .i64 l.length, .int .i64 0]) ∧ Ext w w' := by
  have hm := pack_most l
  subst hn
  refine (size_any A c (packM l) w hl (by omega)).mono ?_
  rintro e w' ⟨rfl, hE⟩
  rw [size_pack (by omega)]
  exact ⟨rfl, hE⟩
set_option maxRecDepth 100000 in
set_option maxHeartbeats 1000000 in
theorem lzback_any (A : Option Addr) (n c : Nat) (l : List UInt8) (w : World) (a : Nat) (hn : n = l.length) (hl : Bs w A l) (hA : ∀ a, A = some a → a.block < w.heap.size) (hc : n ≤ c) (hle : n ≤ 9223372036854775807) (ha : a < 256) :
    Calls Try.prog 5 #[.slice A n c, .int .u8 a] w fun e w' => e = .returned (.bool true) ∧ Ext w w' := by
  obtain ⟨m, hm⟩ : ∃ m, m = min n 1200 := ⟨_, rfl⟩
  obtain ⟨k, hk⟩ : ∃ k, k = l.take 1200 := ⟨_, rfl⟩
  have hmk : m = k.length := by rw [hk, List.length_take, hm, hn]; omega
  have hbk : Bs w A k := by rw [hk]; exact hl.take 1200
  have hm12 : m ≤ 1200 := by omega
  have hmc : m ≤ c := by omega
  have hcut := cut_any A c n m w hc hle hm
  have hkl : (k.map B8).length = m * 1 := by rw [List.length_map, ← hmk]; omega
  replace hkl := hide hkl
  replace hcut := hide hcut
  replace hm := hide hm
  replace hk := hide hk
  replace hmk := hide hmk
  clear hl hn
  go_enter Try.func5, Try.ntmps5
  go_wp2_with fail
  refine hcut.out.mono ?_
  rintro e w0 ⟨rfl, rfl⟩
  go_wp2_with fail
  go_loopw [5, 6] (fun s5 s6 wr => ∃ (i x : Nat) (all : List UInt8) (Ao : Option Addr) (co : Nat), s6 = .int .i64 i ∧ s5 = .slice Ao x co ∧ i ≤ a % 4 + 1 ∧ x ≤ i * 1200 ∧ Hid (x = all.length) ∧ Hid (wr.ownsRow w0.heap.size 5 1 (.slice Ao x co) x (all.map B8)) ∧ Ext w0 wr) (fun _ s6 _ => a % 4 + 1 - (intOf s6).toNat)
  case atStart => exact ⟨0, 0, [], none, 0, rfl, rfl, by omega, by omega, rfl, hide ⟨rfl, .inl ⟨rfl, rfl⟩⟩, Ext.refl _⟩
  case round =>
    obtain ⟨i, x, all, Ao, co, rfl, rfl, hi, hx, hxl, hown, hE⟩ := hrel
    by_cases hia : i ≤ a % 4
    · have hos := hown.out
      have hEs := hE.size
      have hsrc : Cells wr A (k.map B8) := hbk.ext hE
      have hd : decide ((i : Int) ≤ (a : Int) % 4) = true := decide_eq_true (by omega)
      go_wp2_with (at_builtin; refine wpList_app (m := m) elemB hos hsrc (.tmp 22) (.tmp 23) rfl rfl rfl rfl rfl hkl.out (bytes_one _) (by omega) hEs (fun A3 c3 w3 ho3 hg3 hl3 => ?_))
      have hE3 : Ext w0 w3 := hE.grown hg3 (fun k hk => (hos.lt k hk).1)
      have ho4 : w3.ownsRow w0.heap.size 5 1 (.slice A3 (x + m) c3) (x + m) ((all ++ k).map B8) := by
        rw [List.map_append]
        exact ho3
      have hl4 : x + m = (all ++ k).length := by rw [List.length_append, ← hxl.out, ← hmk.out]
      replace hl4 := hide hl4
      replace ho4 := hide ho4
      clear ho3 hg3 hl3 hos hown hsrc
      go_roundw
      case rel => exact ⟨i + 1, x + m, all ++ k, A3, c3, by go_num, rfl, by omega, by omega, hl4, ho4, hE3⟩
      case measure => simp [intOf]; omega
    · have hd : decide ((i : Int) ≤ (a : Int) % 4) = false := decide_eq_false (by omega)
      have hx2 : x ≤ 4800 := by omega
      have hal : all.length ≤ 10000 := by rw [← hxl.out]; omega
      have hcap := own_cap hown.out
      have hlt := own_lt hown.out
      have hba : Bs wr Ao all := Cells.of_own hown.out
      replace hal := hide hal
      go_wp2_with fail
      refine (pack_len Ao co x all wr hxl.out hba hlt (by omega) hcap).mono ?_
      rintro e w1 ⟨A1, n1, c1, rfl, hn1, hc1, hb1, hlt1, hE1⟩
      replace hn1 := hide hn1
      go_wp2_with fail
      refine (unpack_pack A1 n1 c1 all w1 hn1.out hb1 hlt1 hc1 hal.out).mono ?_
      rintro e w2 ⟨A2, n2, c2, rfl, hn2, hb2, hE2⟩
      rw [← hxl.out] at hn2
      replace hn2 := hide hn2
      go_wp2_with fail
      refine (size_of_pack A1 n1 c1 all w2 hn1.out (hb1.ext hE2) hal.out).mono ?_
      rintro e w3 ⟨rfl, hE3⟩
      rw [← hxl.out]
      have s1 := run_str (hb2.ext hE3) n2 c2 (by rw [hn2.out]; exact hxl.out)
      have s2 := run_str (((hba.ext hE1).ext hE2).ext hE3) x co hxl.out
      obtain ⟨S, hS⟩ : ∃ S : ByteArray, S = ⟨all.toArray⟩ := ⟨_, rfl⟩
      rw [← hS] at s1 s2
      have haw := awake_any w3
      replace haw := hide haw
      replace hS := hide hS
      go_wp2_with fail
      refine haw.out.mono ?_
      rintro e w5 ⟨rfl, hE5⟩
      go_wp2_with fail
      go_ret
      exact ⟨rfl, hE.trans (hE1.trans (hE2.trans (hE3.trans hE5)))⟩
end Go.Proofs.Yteofooecfedplaa
