/- loggia/lz: the walks of the packer's small functions. -/
import Derived.Test.YteofooecfedplaaRows
import Derived.Test.YteofooecfedplaaMap
import Derived.Test.YteofooecfedplaaLzP
namespace Go.Proofs.Yteofooecfedplaa
open Go.RowKit

theorem follows : Try.prog.follows .mixedOrders = true := by kernel_rfl
theorem elemB : Elem Try.prog 22 5 1 1 := ⟨Try.underlying22, ⟨_, _, rfl, rfl, rfl, rfl, rfl⟩, by omega, by omega⟩
theorem elemI : Elem Try.prog 57 3 1 8 := ⟨Try.underlying57, ⟨_, _, rfl, rfl, rfl, rfl, rfl⟩, by omega, by omega⟩

/-- The four bytes from i on, as a key. -/
def key4 (l : List UInt8) (i : Nat) : Value := .agg #[B8 (l.getD i 0), B8 (l.getD (i + 1) 0), B8 (l.getD (i + 2) 0), B8 (l.getD (i + 3) 0)]
def key0 : Value := .agg #[.int .u8 0, .int .u8 0, .int .u8 0, .int .u8 0]

set_option maxRecDepth 100000 in
set_option maxHeartbeats 400000 in
theorem key_yes (b : Nat) (i : Nat) (A : Option Addr) (c : Nat) (l : List UInt8) (w : World)
  (hb : w.cell? ⟨b, 0, none⟩ = some (.slice A l.length c)) (hl : Bs w A l) (hn : l.length ≤ 16777216) (hc : l.length ≤ c) (hi : i + 4 ≤ l.length) :
    Calls Try.prog 23 #[.pointer (some ⟨b, 0, none⟩), .int .i64 i] w fun e w' => e = .returned (.tuple #[key4 l i, .bool true]) ∧ Ext w w' := by
  obtain ⟨g, o, rfl, hcl⟩ := hl.at_ (by omega)
  have h0 := hcl i (by omega)
  have h1 : w.cell? ⟨g, o + i + 1, none⟩ = some (.int .u8 (l[i + 1].toNat : Int)) := by rw [Nat.add_assoc]; exact hcl (i + 1) (by omega)
  have h2 : w.cell? ⟨g, o + i + 2, none⟩ = some (.int .u8 (l[i + 2].toNat : Int)) := by rw [Nat.add_assoc]; exact hcl (i + 2) (by omega)
  have h3 : w.cell? ⟨g, o + i + 3, none⟩ = some (.int .u8 (l[i + 3].toNat : Int)) := by rw [Nat.add_assoc]; exact hcl (i + 3) (by omega)
  have hbl : b < w.heap.size := World.block_lt_of_cell? w _ hb
  have hgl : g < w.heap.size := World.block_lt_of_cell? w _ h0
  have hsa := run_arrayAt (P := Try.prog) Try.underlying54 (some ⟨g, o + i, none⟩) 4 (c - i) (by omega)
  go_enter Try.func23, Try.ntmps23
  go_wp2
  have hk : key4 l i = .agg #[.int .u8 (l[i].toNat : Int), .int .u8 (l[i + 1].toNat : Int), .int .u8 (l[i + 2].toNat : Int), .int .u8 (l[i + 3].toNat : Int)] := by
    simp [key4, B8, List.getD, show i < l.length by omega, show i + 1 < l.length by omega, show i + 2 < l.length by omega, show i + 3 < l.length by omega]
  rw [hk]
  exact bodyPost_ret (v := .tuple #[.agg #[.int .u8 (l[i].toNat : Int), .int .u8 (l[i + 1].toNat : Int), .int .u8 (l[i + 2].toNat : Int), .int .u8 (l[i + 3].toNat : Int)], .bool true]) (by simp [results, Try.results23, go_sem]) rfl ⟨rfl, (Ext.refl _).alloc _⟩
set_option maxRecDepth 100000 in
set_option maxHeartbeats 400000 in
theorem key_no (b : Nat) (i : Nat) (A : Option Addr) (c n : Nat) (w : World)
  (hb : w.cell? ⟨b, 0, none⟩ = some (.slice A n c)) (hn : n ≤ 16777216) (hi : i ≤ n) (hi4 : n < i + 4) :
    Calls Try.prog 23 #[.pointer (some ⟨b, 0, none⟩), .int .i64 i] w fun e w' => e = .returned (.tuple #[key0, .bool false]) ∧ Ext w w' := by
  have hbl : b < w.heap.size := World.block_lt_of_cell? w _ hb
  go_enter Try.func23, Try.ntmps23
  go_wp2
  exact bodyPost_ret (v := .tuple #[.agg #[.int .u8 0, .int .u8 0, .int .u8 0, .int .u8 0], .bool false]) (by simp [results, Try.results23, go_sem]) rfl ⟨rfl, (Ext.refl _).alloc _⟩

set_option maxRecDepth 100000 in
set_option maxHeartbeats 400000 in
theorem alike_any (b : Nat) (i k : Nat) (A : Option Addr) (c : Nat) (l : List UInt8) (w : World)
  (hb : w.cell? ⟨b, 0, none⟩ = some (.slice A l.length c)) (hl : Bs w A l) (hn : l.length ≤ 16777216) (hik : i < k) (hk : k < l.length) :
    Calls Try.prog 24 #[.pointer (some ⟨b, 0, none⟩), .int .i64 i, .int .i64 k] w fun e w' => e = .returned (.int .i64 (alk l i k 131 0)) ∧ Ext w w' := by
  obtain ⟨g, o, rfl, hc⟩ := hl.at_ (by omega)
  go_enter Try.func24, Try.ntmps24
  go_wp2
  go_loopw [7] (fun m wr => ∃ n : Nat, n ≤ 131 ∧ m = .int .i64 n ∧ Hid (alk l i k (131 - n) n = alk l i k 131 0) ∧ Ext w wr) (fun m _ => 131 - (intOf m).toNat)
  case atStart => exact ⟨0, by omega, rfl, rfl, Ext.refl _⟩
  case round =>
    obtain ⟨n, hn1, rfl, hal, hE⟩ := hrel
    have hb' := hE.cell hb
    by_cases h1 : n < 131
    · by_cases h2 : k + n < l.length
      · have hci := hE.cell (hc (i + n) (by omega))
        have hck := hE.cell (hc (k + n) (by omega))
        go_wp2
        refine wp_region_text follows (by kernel_rfl) (by kernel_rfl) (fun K hK => ?_)
        go_wp2
        refine ⟨by kernel_rfl, ?_⟩
        go_wp2
        · have he := byte_eq (a := l[i + n]'(by omega)) (b := l[k + n]'(by omega)) (by assumption)
          go_roundw
          case rel => exact ⟨n + 1, by omega, by go_num, hide (by rw [← hal.out, show 131 - n = (131 - (n + 1)) + 1 by omega, alk_hit hik h2 he]), hE.drew⟩
          case measure => simp [intOf]; omega
        · have he := byte_ne (a := l[i + n]'(by omega)) (b := l[k + n]'(by omega)) (by assumption)
          go_ret
          exact ⟨ret_int (by rw [← hal.out, show 131 - n = (131 - (n + 1)) + 1 by omega, alk_miss hik h2 he]), hE.drew⟩
      · go_wp2
        refine wp_region_text follows (by kernel_rfl) (by kernel_rfl) (fun K hK => ?_)
        go_wp2
        refine ⟨by kernel_rfl, ?_⟩
        go_wp2
        go_ret
        exact ⟨ret_int (by rw [← hal.out, alk_end h2]), hE.drew⟩
    · go_wp2
      refine wp_region_text follows (by kernel_rfl) (by kernel_rfl) (fun K hK => ?_)
      go_wp2
      refine ⟨by kernel_rfl, ?_⟩
      go_wp2
      go_ret
      exact ⟨ret_int (by rw [← hal.out, show 131 - n = 0 by omega]; rfl), hE.drew⟩
end Go.Proofs.Yteofooecfedplaa
