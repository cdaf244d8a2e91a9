/- loggia/lines: put, Quote. -/
import Derived.Test.YtpajpdkliohepaaDoorLnP
import Derived.Test.YtpajpdkliohepaaDoorCnv
import Derived.Test.YtpajpdkliohepaaDoorStr
import Derived.Laws.BitsAllLaws
namespace Go.Proofs.YtpajpdkliohepaaDoor
open Go.RowKit

/-- A row of bytes of the call's own, longer by some. -/
def Longer (w : World) (base : Nat) (A : Option Addr) (l : List UInt8) (e : Ending) (w' : World) : Prop := ∃ A1 c, e = .returned (.slice A1 l.length c) ∧ Buf w' base 5 A1 l.length c (l.map B8) ∧ Push w A A1 w'
theorem lput_esc (c : UInt8) (l : List UInt8) : (l ++ escL c).map B8 = l.map B8 ++ (escL c).map B8 := List.map_append
def hexS : List UInt8 := [48, 49, 50, 51, 52, 53, 54, 55, 56, 57, 97, 98, 99, 100, 101, 102]
theorem hexS_at (i : Nat) (h : i < 16) : hexS[i]? = some (hexN i) := by
  have : ∀ k : Fin 16, hexS[k.val]? = some (hexN k.val) := by decide +kernel
  exact this ⟨i, h⟩
theorem shr4 (x : UInt8) : ((x.toNat : Int) / 16) = ((x.toNat / 16 : Nat) : Int) := by omega
theorem esc_q {x : UInt8} (h : x.toNat = 34 ∨ x.toNat = 92) : escL x = [92, x] := by unfold escL; rw [if_pos h]
theorem esc_q34 {x : UInt8} (h : x.toNat = 34) : escL x = [92, 34] := by rw [esc_q (.inl h), show x = 34 from UInt8.toNat_inj.1 h]
theorem esc_n {x : UInt8} (h : x.toNat = 10) : escL x = [92, 110] := by unfold escL; rw [if_neg (by omega), if_pos h]
theorem esc_t {x : UInt8} (h : x.toNat = 9) : escL x = [92, 116] := by unfold escL; rw [if_neg (by omega), if_neg (by omega), if_pos h]
theorem esc_x {x : UInt8} (h : (x.toNat < 32 ∨ 126 < x.toNat) ∧ x.toNat ≠ 10 ∧ x.toNat ≠ 9) : escL x = [92, 120, hexN (x.toNat / 16), hexN (x.toNat % 16)] := by unfold escL; rw [if_neg (by omega), if_neg (by omega), if_neg (by omega), if_pos h.1]
theorem esc_o {x : UInt8} (h : x.toNat ≠ 34 ∧ x.toNat ≠ 92 ∧ 32 ≤ x.toNat ∧ x.toNat ≤ 126) : escL x = [x] := by unfold escL; rw [if_neg (by omega), if_neg (by omega), if_neg (by omega), if_neg (by omega)]
set_option maxRecDepth 100000 in
set_option maxHeartbeats 2000000 in
theorem lput_any (base n : Nat) (A : Option Addr) (c : Nat) (l : List UInt8) (x : UInt8) (w : World) (hb : Buf w base 5 A n c (l.map B8)) (hn : n = l.length) (hle : n ≤ 1000000000) (hbase : base ≤ w.heap.size) :
    Calls Tryd.prog 34 #[.slice A n c, .int .u8 (x.toNat : Int)] w fun e w' => Longer w base A (l ++ escL x) e w' := by
  have hx := x.toNat_lt
  have h1 := fun W => run_strindexk (k := .u8) (l := hexS) (hexS_at (x.toNat / 16) (by omega)) (z := (x.toNat : Int) / 16) (by omega) W
  have h2 := fun W => run_strindexk (k := .u8) (l := hexS) (hexS_at (x.toNat % 16) (by omega)) (z := (x.toNat : Int) % 16) (by omega) W
  unfold hexS at h1 h2
  obtain ⟨d1, hd1⟩ : ∃ d1, d1 = hexN (x.toNat / 16) := ⟨_, rfl⟩
  obtain ⟨d2, hd2⟩ : ∃ d2, d2 = hexN (x.toNat % 16) := ⟨_, rfl⟩
  rw [← hd1] at h1
  rw [← hd2] at h2
  have fin : ∀ A3 k c3 w3, k = n + (escL x).length → Buf w3 base 5 A3 k c3 (l.map B8 ++ (escL x).map B8) → Push w A A3 w3 → Longer w base A (l ++ escL x) (.returned (.slice A3 k c3)) w3 := fun A3 k c3 w3 hk h hE => by
    have hk2 : k = (l ++ escL x).length := by rw [hk, hn, List.length_append]
    refine ⟨A3, c3, by rw [hk2], ?_, hE⟩
    rw [← hk2, lput_esc]
    exact h
  replace hn := hide hn
  replace fin := hide fin
  replace hd1 := hide hd1
  replace hd2 := hide hd2
  go_enter Tryd.func34, Tryd.ntmps34
  go_wp2_with (at_builtin; refine wpList_bufK elemB hb _ _ rfl rfl rfl rfl (one_of rfl) (by simp; omega) hbase (fun A3 c3 w3 hb3 hE3 => ?_))
  all_goals first
    | (go_ret
       first
         | (have q : x.toNat = 34 := by omega
            have e := esc_q34 q
            exact fin.out _ _ _ _ (by rw [e]; rfl) (by rw [e]; exact hb3) hE3)
         | (have q : x.toNat = 34 ∨ x.toNat = 92 := by simp_all; omega
            have e := esc_q q
            exact fin.out _ _ _ _ (by rw [e]; rfl) (by rw [e]; exact hb3) hE3)
         | (have q : x.toNat = 10 := by simp_all; omega
            have e := esc_n q
            exact fin.out _ _ _ _ (by rw [e]; rfl) (by rw [e]; exact hb3) hE3)
         | (have q : x.toNat = 9 := by simp_all; omega
            have e := esc_t q
            exact fin.out _ _ _ _ (by rw [e]; rfl) (by rw [e]; exact hb3) hE3)
         | (have q : x.toNat ≠ 34 ∧ x.toNat ≠ 92 ∧ 32 ≤ x.toNat ∧ x.toNat ≤ 126 := by simp_all; omega
            have e := esc_o q
            exact fin.out _ _ _ _ (by rw [e]; rfl) (by rw [e]; exact hb3) hE3)
       done)
    | skip
  all_goals refine wp_region_text follows (by kernel_rfl) (by kernel_rfl) (fun K hK => ?_)
  all_goals go_wp2_with (at_builtin; refine wpList_bufK elemB hb.drew _ _ rfl rfl rfl rfl (one_of rfl) (by simp; omega) hbase (fun A3 c3 w3 hb3 hE3 => ?_))
  all_goals
    refine ⟨by kernel_rfl, ?_⟩
    go_wp2_with fail
    go_ret
    have q : (x.toNat < 32 ∨ 126 < x.toNat) ∧ x.toNat ≠ 10 ∧ x.toNat ≠ 9 := by simp_all; omega
    have e := esc_x q
    rw [← hd1.out, ← hd2.out] at e
    exact fin.out _ _ _ _ (by rw [e]; rfl) (by rw [e]; exact hb3) ((Push.of_ext (Ext.refl w).drew A).trans hE3)
end Go.Proofs.YtpajpdkliohepaaDoor
