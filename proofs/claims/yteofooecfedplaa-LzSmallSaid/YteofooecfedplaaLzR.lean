/- loggiaref05: the walks of alike, match, run. -/
import Derived.Test.YteofooecfedplaaLzF
namespace Go.Proofs.Yteofooecfedplaa
open Go.RowKit

set_option maxRecDepth 100000 in
set_option maxHeartbeats 400000 in
theorem ralike_any (i k : Nat) (A : Option Addr) (c : Nat) (l : List UInt8) (w : World) (hl : Bs w A l) (hn : l.length ≤ 16777216) (hik : i < k) (hk : k < l.length) :
    Calls Try.prog 25 #[.slice A l.length c, .int .i64 i, .int .i64 k] w fun e w' => e = .returned (.int .i64 (alk l i k 131 0)) ∧ Ext w w' := by
  obtain ⟨g, o, rfl, hc⟩ := hl.at_ (by omega)
  go_enter Try.func25, Try.ntmps25
  go_wp2
  go_loopw [7] (fun m wr => ∃ n : Nat, n ≤ 131 ∧ m = .int .i64 n ∧ Hid (alk l i k (131 - n) n = alk l i k 131 0) ∧ Ext w wr) (fun m _ => 131 - (intOf m).toNat)
  case atStart => exact ⟨0, by omega, rfl, rfl, Ext.refl _⟩
  case round =>
    obtain ⟨n, hn1, rfl, hal, hE⟩ := hrel
    by_cases h1 : n < 131
    · by_cases h2 : k + n < l.length
      · have hci := hE.cell (hc (i + n) (by omega))
        have hck := hE.cell (hc (k + n) (by omega))
        go_wp2
        refine wp_region_text follows (by kernel_rfl) (by kernel_rfl) (fun K hK => ?_)
        go_wp2
        refine ⟨by kernel_rfl, ?_⟩
        go_wp2
        · have he := byte_eq (a := l[i + n]'(by omega)) (b := l[k + n]'(by omega)) (by assumption)
          go_roundw
          case rel => exact ⟨n + 1, by omega, by go_num, hide (by rw [← hal.out, show 131 - n = (131 - (n + 1)) + 1 by omega, alk_hit hik h2 he]), hE.drew⟩
          case measure => simp [intOf]; omega
        · have he := byte_ne (a := l[i + n]'(by omega)) (b := l[k + n]'(by omega)) (by assumption)
          go_ret
          exact ⟨ret_int (by rw [← hal.out, show 131 - n = (131 - (n + 1)) + 1 by omega, alk_miss hik h2 he]), hE.drew⟩
      · go_wp2
        refine wp_region_text follows (by kernel_rfl) (by kernel_rfl) (fun K hK => ?_)
        go_wp2
        refine ⟨by kernel_rfl, ?_⟩
        go_wp2
        go_ret
        exact ⟨ret_int (by rw [← hal.out, alk_end h2]), hE.drew⟩
    · go_wp2
      refine wp_region_text follows (by kernel_rfl) (by kernel_rfl) (fun K hK => ?_)
      go_wp2
      refine ⟨by kernel_rfl, ?_⟩
      go_wp2
      go_ret
      exact ⟨ret_int (by rw [← hal.out, show 131 - n = 0 by omega]; rfl), hE.drew⟩

/-- The longest of four or more, the nearest first: f distances are left, from d on. -/
def rml (l : List UInt8) (i : Nat) : Nat → Nat → Nat → Nat → Nat × Nat
  | 0, _, far, long => (far, long)
  | f + 1, d, far, long => if d ≤ i ∧ d ≤ 65535 then if 4 ≤ alk l (i - d) i 131 0 ∧ long < alk l (i - d) i 131 0 then rml l i f (d + 1) d (alk l (i - d) i 131 0) else rml l i f (d + 1) far long else (far, long)

set_option maxRecDepth 100000 in
set_option maxHeartbeats 400000 in
theorem rmatch_any (i : Nat) (A : Option Addr) (c : Nat) (l : List UInt8) (w : World) (hl : Bs w A l) (hn : l.length ≤ 16777216) (hi : i < l.length) :
    Calls Try.prog 20 #[.slice A l.length c, .int .i64 i] w fun e w' => e = .returned (.tuple #[.int .i64 (rml l i (i + 1) 1 0 0).1, .int .i64 (rml l i (i + 1) 1 0 0).2]) ∧ Ext w w' := by
  go_enter Try.func20, Try.ntmps20
  go_wp2_with fail
  go_loopw [6, 7, 8] (fun s6 s7 s8 wr => ∃ d far long : Nat, 1 ≤ d ∧ d ≤ i + 1 ∧ s8 = .int .i64 d ∧ s6 = .int .i64 far ∧ s7 = .int .i64 long ∧ Hid (rml l i (i + 2 - d) d far long = rml l i (i + 1) 1 0 0) ∧ Ext w wr) (fun _ _ s8 _ => i + 1 - (intOf s8).toNat)
  case atStart => exact ⟨1, 0, 0, by omega, by omega, rfl, rfl, rfl, rfl, Ext.refl _⟩
  case round =>
    obtain ⟨d, far, long, hd1, hd2, rfl, rfl, rfl, hr, hE⟩ := hrel
    by_cases hdi : d ≤ i
    · have hrs : rml l i (i + 2 - d) d far long = (if d ≤ i ∧ d ≤ 65535 then if 4 ≤ alk l (i - d) i 131 0 ∧ long < alk l (i - d) i 131 0 then rml l i (i + 2 - (d + 1)) (d + 1) d (alk l (i - d) i 131 0) else rml l i (i + 2 - (d + 1)) (d + 1) far long else (far, long)) := by
        rw [show i + 2 - d = (i + 2 - (d + 1)) + 1 by omega]; rfl
      obtain ⟨x, hx⟩ : ∃ x, x = alk l (i - d) i 131 0 := ⟨_, rfl⟩
      have hxb := (alk_le l (i - d) i 131 0).2
      rw [← hx] at hrs hxb
      replace hrs := hide hrs
      replace hx := hide hx
      by_cases hd6 : d ≤ 65535
      · go_wp2_with fail
        have hsub : (i : Int) - d = ((i - d : Nat) : Int) := by omega
        rw [hsub]
        refine (ralike_any (i - d) i A c l wr (hl.ext hE) hn (by omega) hi).mono ?_
        rw [← hx.out]
        rintro e w1 ⟨rfl, hE1⟩
        by_cases h4 : 4 ≤ x
        · by_cases hlx : long < x
          · go_wp2_with fail
            go_roundw
            case rel => exact ⟨d + 1, d, x, by omega, by omega, by go_num, rfl, rfl, hide (by rw [← hr.out, hrs.out, if_pos ⟨hdi, hd6⟩, if_pos ⟨h4, hlx⟩]), hE.trans hE1⟩
            case measure => simp [intOf]; omega
          · go_wp2_with fail
            go_roundw
            case rel => exact ⟨d + 1, far, long, by omega, by omega, by go_num, rfl, rfl, hide (by rw [← hr.out, hrs.out, if_pos ⟨hdi, hd6⟩, if_neg (by omega)]), hE.trans hE1⟩
            case measure => simp [intOf]; omega
        · go_wp2_with fail
          go_roundw
          case rel => exact ⟨d + 1, far, long, by omega, by omega, by go_num, rfl, rfl, hide (by rw [← hr.out, hrs.out, if_pos ⟨hdi, hd6⟩, if_neg (by omega)]), hE.trans hE1⟩
          case measure => simp [intOf]; omega
      · go_wp2_with fail
        go_ret2
        refine ⟨?_, hE⟩
        rw [← hr.out, hrs.out, if_neg (by omega)]
        rfl
    · obtain rfl : d = i + 1 := by omega
      go_wp2_with fail
      go_ret2
      refine ⟨?_, hE⟩
      rw [← hr.out, show i + 2 - (i + 1) = 0 + 1 by omega]
      show _ = Ending.returned (.tuple #[.int .i64 (if i + 1 ≤ i ∧ i + 1 ≤ 65535 then _ else _ : Nat × Nat).1, .int .i64 (if i + 1 ≤ i ∧ i + 1 ≤ 65535 then _ else _ : Nat × Nat).2])
      rw [if_neg (by omega)]
      rfl

/-- one run -/
def run1 (x : List UInt8) : List UInt8 := if x = [] then [] else UInt8.ofNat (x.length - 1) :: x
set_option maxRecDepth 100000 in
set_option maxHeartbeats 400000 in
theorem rrun_any (base : Nat) (A Ao : Option Addr) (c co : Nat) (x out : List UInt8) (w : World) (hx : Bs w A x) (hA : ∀ a, A = some a → a.block < base) (ho : w.ownsRow base 5 1 (.slice Ao out.length co) out.length (out.map B8))
  (hbase : base ≤ w.heap.size) (hn : x.length ≤ 128) (hout : out.length ≤ 16777216) :
    Calls Try.prog 21 #[.slice Ao out.length co, .slice A x.length c] w fun e w' => ∃ A1 c1, e = .returned (.slice A1 (out ++ run1 x).length c1) ∧ w'.ownsRow base 5 1 (.slice A1 (out ++ run1 x).length c1) (out ++ run1 x).length ((out ++ run1 x).map B8) ∧ Below base w w' := by
  by_cases h0 : x = []
  · subst h0
    have hl0 : (((0 : Nat) : Int) == 0) = true := rfl
    go_enter Try.func21, Try.ntmps21
    go_wp2_with fail
    go_ret
    exact ⟨Ao, co, by simp [run1], by simpa [run1] using ho, Below.refl _ _⟩
  · have hxl : 0 < x.length := List.length_pos_iff.2 h0
    have hl0 : ((x.length : Int) == 0) = false := beq_eq_false_iff_ne.2 (by omega)
    obtain ⟨n, hnn⟩ : ∃ n, n = x.length := ⟨_, rfl⟩
    obtain ⟨m, hm⟩ : ∃ m, m = out.length := ⟨_, rfl⟩
    have hB8 : Value.int .u8 ((n : Int) - 1) = B8 (UInt8.ofNat (n - 1)) := by
      unfold B8
      congr 1
      simp
      omega
    rw [← hm] at ho
    rw [← hm, ← hnn]
    rw [← hnn] at hl0 hxl hn
    replace hB8 := hide hB8
    have hx1l : (x.map B8).length = n * 1 := by simp [hnn]
    replace hx1l := hide hx1l
    replace hnn := hide hnn
    replace hm := hide hm
    have hmo : m ≤ 16777216 := by rw [hm.out]; exact hout
    clear hout
    go_enter Try.func21, Try.ntmps21
    go_wp2_with (first | (at_builtin; refine wpList_appN elemB ho (.tmp 9) (.tmp 14) rfl rfl rfl rfl (one_of rfl) (by simp; omega) hbase (fun A2 c2 w1 ho2 hg2 hl2 => ?_); have hB1 := (Below.refl base w).grown hg2 hbase (fun k hk => (ho.lt k hk).1); have hx1 := hx.below hB1 hA; have hs1 := Nat.le_trans hbase hB1.size) | (at_builtin; refine wpList_app elemB ho2 hx1 (.tmp 15) (.tmp 16) rfl rfl rfl rfl rfl hx1l.out (bytes_one _) (by simp only [List.length_cons, List.length_nil]; omega) hs1 (fun A3 c3 w2 ho3 hg3 hl3 => ?_); have hB2 := hB1.grown hg3 hs1 (fun k hk => (ho2.lt k hk).1)))
    go_ret
    have hl : (out ++ run1 x).length = m + 1 + n := by
      simp only [run1, if_neg h0, List.length_append, List.length_cons, ← hnn.out, ← hm.out]
      omega
    rw [hl]
    refine ⟨A3, c3, rfl, ?_, hB2⟩
    have e : (out ++ run1 x).map B8 = out.map B8 ++ [Value.int .u8 ((n : Int) - 1)] ++ x.map B8 := by
      rw [hB8.out]
      simp only [run1, if_neg h0, ← hnn.out, List.map_append, List.map_cons, List.append_assoc, List.cons_append, List.nil_append]
    rw [e]
    exact ho3
theorem rrun_at (base n m : Nat) (A Ao : Option Addr) (c co : Nat) (x out : List UInt8) (w : World) (hnx : n = x.length) (hm : m = out.length) (hx : Bs w A x) (hA : ∀ a, A = some a → a.block < base) (ho : w.ownsRow base 5 1 (.slice Ao out.length co) out.length (out.map B8))
  (hbase : base ≤ w.heap.size) (hn : n ≤ 128) (hout : m ≤ 16777216) :
    Calls Try.prog 21 #[.slice Ao m co, .slice A n c] w fun e w' => ∃ A1 n1 c1, e = .returned (.slice A1 n1 c1) ∧ n1 = (out ++ run1 x).length ∧ w'.ownsRow base 5 1 (.slice A1 (out ++ run1 x).length c1) (out ++ run1 x).length ((out ++ run1 x).map B8) ∧ Below base w w' := by
  subst hnx
  subst hm
  refine (rrun_any base A Ao c co x out w hx hA ho hbase hn hout).mono ?_
  rintro e w' ⟨A1, c1, rfl, h1, h2⟩
  exact ⟨A1, _, c1, rfl, rfl, h1, h2⟩
end Go.Proofs.Yteofooecfedplaa
