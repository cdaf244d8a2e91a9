/- loggia/lz: order, a match. -/
import Derived.Test.YteofooecfedplaaLzV
namespace Go.Proofs.Yteofooecfedplaa
open Go.RowKit

theorem cpy_end (k back : Nat) (out : List UInt8) (j : Nat) (h : k - j = 0) : cpy (k - j) back out = out := by rw [h]; rfl
theorem cpy_more (k back : Nat) (out : List UInt8) (j : Nat) (h : j < k) : cpy (k - j) back out = cpy (k - (j + 1)) back (out ++ [out.getD (out.length - back) 0]) := by
  obtain ⟨i, hi⟩ : ∃ i, k - j = i + 1 := ⟨k - j - 1, by omega⟩
  rw [hi, show k - (j + 1) = i by omega]
  rfl
set_option maxRecDepth 100000 in
set_option maxHeartbeats 2000000 in
theorem order_match (b base : Nat) (A : Option Addr) (cap : Nat) (c : UInt8) (r out : List UInt8) (Ao : Option Addr) (co most : Nat) (w : World) (hS : RS w b base A cap (c :: r) out Ao co most) (hlit : ¬ c.toNat < 128)
  (hr : r.length ≤ 1048576) (hmost : most ≤ 16777216) (hout : out.length ≤ most) :
    Calls Try.prog 22 #[.pointer (some ⟨b, 0, none⟩)] w fun e w' => e = .returned (.bool (ordM most c r out).isSome) ∧
      (∀ rest' out', ordM most c r out = some (rest', out') → ∃ A1 c1 Ao1 co1, RS w' b base A1 c1 rest' out' Ao1 co1 most) ∧ Below base w w' := by
  obtain ⟨row, hrest, hlt, hcap, hown, hsz, hbb⟩ := hS
  obtain ⟨g, o, hAg, hcl⟩ := hrest.at_ (by simp)
  have hcc := hcl 0 (by simp)
  simp only [List.getElem_cons_zero, Nat.add_zero] at hcc
  have hgb : g < base := hlt _ hAg
  obtain ⟨cn, hcn⟩ : ∃ cn, cn = c.toNat := ⟨_, rfl⟩
  have hcn256 : cn < 256 := by rw [hcn]; exact c.toNat_lt
  obtain ⟨rl, hrl⟩ : ∃ rl, rl = r.length := ⟨_, rfl⟩
  obtain ⟨ol, hol⟩ : ∃ ol, ol = out.length := ⟨_, rfl⟩
  have hcr : (c :: r).length = rl + 1 := by rw [hrl]; rfl
  rw [← hcn] at hcc hlit
  rw [← hrl] at hr
  rw [← hol] at hout row hown
  have hord : ordM most c r out = if rl < 2 then none else
    if (r.getD 0 0).toNat * 256 + (r.getD 1 0).toNat = 0 ∨ ol < (r.getD 0 0).toNat * 256 + (r.getD 1 0).toNat ∨ most < ol + (cn - 124) then none
    else some (r.drop 2, cpy (cn - 124) ((r.getD 0 0).toNat * 256 + (r.getD 1 0).toNat) out) := by
    unfold ordM
    rw [← hcn, if_neg hlit, ← hrl, ← hol]
  have hcap' : rl + 1 ≤ cap := by rw [← hcr]; exact hcap
  replace hcn := hide hcn
  replace hol := hide hol
  replace hord := hide hord
  replace hcr := hide hcr
  replace hrl := hide hrl
  replace hAg := hide hAg
  have n1 := next_st b base 1 A cap (c :: r) _ _ _ w row hrest hlt hbb hcap (by simp) (by rw [hcr.out]; omega)
  replace n1 := hide n1
  go_enter Try.func22, Try.ntmps22
  go_wp2_with fail
  refine n1.out.mono ?_
  rintro e w1 ⟨rfl, A1, R1, hb1, hlt1, hC1⟩
  rw [hAg.out]
  have hcc1 := hC1.cell hcc (show ¬ g = b by omega)
  have hB1 : Below base w w1 := hC1.below (fun k hk => by rw [hk]; exact hbb) hsz
  have hown1 := hC1.owns hown (fun g' hg' hk => owns_unlike hown row (by decide) (by rw [hg', hk]))
  simp only [List.drop_succ_cons, List.drop_zero] at hb1
  have hl1 : (c :: r).length - 1 = r.length := by simp
  rw [hl1] at R1
  clear hl1
  by_cases hk : rl < 2
  · have n2 := next_no b A1 2 rl (cap - 1) w1 (by rw [hrl.out]; exact R1.cell 0 rfl) (by omega)
    replace n2 := hide n2
    go_wp2_with fail
    refine n2.out.mono ?_
    rintro e w2 ⟨rfl, rfl⟩
    go_wp2_with fail
    go_ret
    rw [hord.out, if_pos hk]
    refine ⟨rfl, ?_, hB1⟩
    intro rest' out' h
    cases h
  · have n2 := next_st b base 2 A1 (cap - 1) r _ _ _ w1 R1 hb1 hlt1 hbb (by rw [← hrl.out]; omega) (by rw [← hrl.out]; omega) (by rw [← hrl.out]; omega)
    replace n2 := hide n2
    go_wp2_with fail
    refine n2.out.mono ?_
    rintro e w2 ⟨rfl, A2, R2, hb2, hlt2, hC2⟩
    have hB2 := Below.trans hB1 (hC2.below (B := base) (fun k hk => by rw [hk]; exact hbb) (Nat.le_trans hsz hB1.size))
    have hown2 := hC2.owns hown1 (fun g' hg' hk => owns_unlike hown1 R1 (by decide) (by rw [hg', hk]))
    have hs2 := Nat.le_trans hsz hB2.size
    obtain ⟨g1, o1, hA1, hcr1⟩ := hb1.at_ (by rw [← hrl.out]; omega)
    have hg1b : g1 < base := hlt1 _ hA1
    obtain ⟨h0, hh0⟩ : ∃ x, x = (r.getD 0 0).toNat := ⟨_, rfl⟩
    obtain ⟨t0, ht0⟩ : ∃ x, x = (r.getD 1 0).toNat := ⟨_, rfl⟩
    have hh256 : h0 < 256 := by rw [hh0]; exact (r.getD 0 0).toNat_lt
    have ht256 : t0 < 256 := by rw [ht0]; exact (r.getD 1 0).toNat_lt
    have ch : w2.cell? ⟨g1, o1, none⟩ = some (.int .u8 (h0 : Int)) := by
      have := hC2.cell (hcr1 0 (by rw [← hrl.out]; omega)) (show ¬ g1 = b by omega)
      rw [hh0]
      simpa [List.getD, show 0 < r.length by rw [← hrl.out]; omega] using this
    have ct : w2.cell? ⟨g1, o1 + 1, none⟩ = some (.int .u8 (t0 : Int)) := by
      have := hC2.cell (hcr1 1 (by rw [← hrl.out]; omega)) (show ¬ g1 = b by omega)
      rw [ht0]
      simpa [List.getD, show 1 < r.length by rw [← hrl.out]; omega] using this
    have hord2 : ordM most c r out = if h0 * 256 + t0 = 0 ∨ ol < h0 * 256 + t0 ∨ most < ol + (cn - 124) then none else some (r.drop 2, cpy (cn - 124) (h0 * 256 + t0) out) := by
      rw [hord.out, if_neg hk, ← hh0, ← ht0]
    have hor := or2 h0 t0 hh256 ht256
    obtain ⟨back, hback⟩ : ∃ x, x = h0 * 256 + t0 := ⟨_, rfl⟩
    rw [← hback] at hord2 hor
    have hbackle : back < 65536 := by omega
    replace hback := hide hback
    replace hh0 := hide hh0
    replace ht0 := hide ht0
    replace hord2 := hide hord2
    clear hord hcr1 hcc1 hcl hcc n1 n2
    replace hA1 := hide hA1
    have ca1 : w2.cell? ⟨b, 1, none⟩ = some (.slice Ao ol co) := R2.cell 1 rfl
    have ca2 : w2.cell? ⟨b, 2, none⟩ = some (.int .i64 most) := R2.cell 2 rfl
    by_cases hz : back = 0
    · subst hz
      go_wp2_with fail
      rw [hA1.out]
      refine wp_region_text follows (by kernel_rfl) (by kernel_rfl) (fun K hK => ?_)
      go_wp2_with fail
      refine ⟨by kernel_rfl, ?_⟩
      go_wp2_with fail
      refine wp_region_text follows (by kernel_rfl) (by kernel_rfl) (fun K hK => ?_)
      go_wp2_with fail
      refine ⟨by kernel_rfl, ?_⟩
      go_wp2_with fail
      go_ret
      rw [hord2.out, if_pos (by simp)]
      refine ⟨rfl, ?_, below_drew (below_drew hB2)⟩
      intro rest' out' h
      cases h
    · have hz' : ((back : Int) == 0) = false := beq_eq_false_iff_ne.2 (by omega)
      by_cases hlb : ol < back
      · go_wp2_with fail
        rw [hA1.out]
        refine wp_region_text follows (by kernel_rfl) (by kernel_rfl) (fun K hK => ?_)
        go_wp2_with fail
        refine ⟨by kernel_rfl, ?_⟩
        go_wp2_with fail
        refine wp_region_text follows (by kernel_rfl) (by kernel_rfl) (fun K hK => ?_)
        go_wp2_with fail
        refine ⟨by kernel_rfl, ?_⟩
        go_wp2_with fail
        go_ret
        rw [hord2.out, if_pos (by omega)]
        refine ⟨rfl, ?_, below_drew (below_drew hB2)⟩
        intro rest' out' h
        cases h
      · by_cases hmk : most < ol + (cn - 124)
        · go_wp2_with fail
          rw [hA1.out]
          refine wp_region_text follows (by kernel_rfl) (by kernel_rfl) (fun K hK => ?_)
          go_wp2_with fail
          refine ⟨by kernel_rfl, ?_⟩
          go_wp2_with fail
          refine wp_region_text follows (by kernel_rfl) (by kernel_rfl) (fun K hK => ?_)
          go_wp2_with fail
          refine ⟨by kernel_rfl, ?_⟩
          go_wp2_with fail
          go_ret
          rw [hord2.out, if_pos (by omega)]
          refine ⟨rfl, ?_, below_drew (below_drew hB2)⟩
          intro rest' out' h
          cases h
        · have hord3 : ordM most c r out = some (r.drop 2, cpy (cn - 124) back out) := by
            rw [hord2.out, if_neg (by omega)]
          replace hord3 := hide hord3
          have hRS : RS w2.drew.drew b base A2 (cap - 1 - 2) (r.drop 2) out Ao co most := by
            refine RS.drew (RS.drew ⟨?_, hb2, hlt2, ?_, ?_, hs2, hbb⟩)
            · rw [List.length_drop, ← hol.out]; exact R2
            · rw [List.length_drop, ← hrl.out]; omega
            · rw [← hol.out]; exact hown2
          have hB3 : Below base w w2.drew.drew := below_drew (below_drew hB2)
          replace hRS := hide hRS
          replace hB3 := hide hB3
          have hlen : Hid (ol = out.length) := hol
          clear hown hown1 R1 row hlt hrest hb1 hC1 hC2 hord2
          go_wp2_with fail
          rw [hA1.out]
          refine wp_region_text follows (by kernel_rfl) (by kernel_rfl) (fun K hK => ?_)
          go_wp2_with fail
          refine ⟨by kernel_rfl, ?_⟩
          go_wp2_with fail
          refine wp_region_text follows (by kernel_rfl) (by kernel_rfl) (fun K hK => ?_)
          go_wp2_with fail
          refine ⟨by kernel_rfl, ?_⟩
          go_wp2_with fail
          clear hown2 R2 hb2 ca1 ca2 ch ct
          go_loopw [104] (fun s wr => ∃ (j n : Nat) (outj : List UInt8) (Aj : Option Addr) (cj : Nat), s = .int .i64 j ∧ j ≤ cn - 124 ∧ n ≤ ol + j ∧ ol + j ≤ n ∧ Hid (n = outj.length) ∧ Hid (cpy (cn - 124 - j) back outj = cpy (cn - 124) back out) ∧ Hid (RS wr b base A2 (cap - 1 - 2) (r.drop 2) outj Aj cj most) ∧ Hid (Below base w wr)) (fun s _ => (cn - 124 - (intOf s).toNat))
          case atStart => exact ⟨0, ol, out, Ao, co, rfl, by omega, by omega, by omega, hlen, rfl, hRS, hB3⟩
          case round =>
            obtain ⟨j, n, outj, Aj, cj, rfl, hj, hn, hn', hnl, hcp, hRj, hBj⟩ := hrel
            clear hRS hB3
            by_cases hjk : j < cn - 124
            · obtain ⟨Rj, hbj, _, hcapj, hownj, hsj, _⟩ := hRj.out
              rw [← hnl.out] at Rj hownj
              have hcells : Bs wr Aj outj := Cells.of_own hownj
              obtain ⟨gj, oj, hAj, hcj⟩ := hcells.at_ (by rw [← hnl.out]; omega)
              have hcx := hcj (n - back) (by rw [← hnl.out]; omega)
              obtain ⟨x, hx⟩ : ∃ x, x = outj[n - back]'(by rw [← hnl.out]; omega) := ⟨_, rfl⟩
              rw [← hx] at hcx
              have hcp2 : cpy (cn - 124 - (j + 1)) back (outj ++ [x]) = cpy (cn - 124) back out := by
                rw [← hcp.out, cpy_more _ _ _ _ hjk, ← hnl.out, hx]
                congr 2
                simp [List.getD, show n - back < outj.length by rw [← hnl.out]; omega]
              have ca1 : wr.cell? ⟨b, 1, none⟩ = some (.slice Aj n cj) := Rj.cell 1 rfl
              have f1 := Rj.free 1
              replace hcp2 := hide hcp2
              replace hx := hide hx
              obtain ⟨d, hd⟩ : ∃ d, d = n - back := ⟨_, rfl⟩
              obtain rfl : n = d + back := by omega
              clear hd
              simp only [Nat.add_sub_cancel] at hcx
              have hdb : d + back + 1 ≤ most := by omega
              rw [hAj] at ca1 hownj
              replace hAj := hide hAj
              have hgj := World.block_lt_of_cell? _ _ hcx
              have hbw := World.block_lt_of_cell? _ _ ca1
              go_wp2_with fail
              refine wp_region_text follows (by kernel_rfl) (by kernel_rfl) (fun K hK => ?_)
              have hownj' : wr.drew.ownsRow base 5 1 (.slice (some ⟨gj, oj, none⟩) (d + back) cj) (d + back) (outj.map B8) := hownj
              have hsj' : base ≤ wr.drew.heap.size := hsj
              go_wp2_with (at_builtin; refine wpList_appN (w0 := wr.drew) (us := [Value.int .u8 x.toNat]) elemB hownj' (.tmp 110) (.tmp 124) rfl rfl rfl rfl (one_of rfl) (by simp; omega) hsj' (fun A3 c3 w3 ho3 hg3 hl3 => ?_); have R3 : Row w3 b 53 _ := Row.grown (w := wr.drew) Rj.drew hg3 (fun e => owns_unlike hownj Rj (by decide) e.symm); have cb1 := R3.cell 1 rfl; have f13 := R3.free 1)
              have hne3 := owns_unlike ho3 R3 (by decide)
              have ho4 : (w3.setCell ⟨b, 1, none⟩ (.slice A3 (d + back + 1) c3)).ownsRow base 5 1 (.slice A3 (d + back + 1) c3) (d + back + 1) ((outj ++ [x]).map B8) := by
                rw [List.map_append]
                exact owns_set ho3 (a := ⟨b, 1, none⟩) hne3 _
              have hl4 : (outj ++ [x]).length = d + back + 1 := by rw [List.length_append, ← hnl.out]; rfl
              have hB4 : Below base wr.drew (w3.setCell ⟨b, 1, none⟩ (.slice A3 (d + back + 1) c3)) := ((Below.refl _ _).grown hg3 hsj' (fun k hk => (hownj.lt k hk).1)).setCell hbb _
              have hRS4 : RS (w3.setCell ⟨b, 1, none⟩ (.slice A3 (d + back + 1) c3)) b base A2 (cap - 1 - 2) (r.drop 2) (outj ++ [x]) A3 c3 most := by
                refine ⟨?_, ?_, hlt2, hcapj, ?_, Nat.le_trans hsj' hB4.size, hbb⟩
                · rw [hl4]
                  exact R3.put 1 (.slice A3 (d + back + 1) c3)
                · exact Bs.below (w := wr.drew) (show Bs wr.drew _ _ from hbj) hB4 hlt2
                · rw [hl4]; exact ho4
              have hB5 := Below.trans (below_drew hBj.out) hB4
              replace hl4 := hide hl4.symm
              replace hRS4 := hide hRS4
              replace hB5 := hide hB5
              clear ho4 hB4 ho3 hg3 hl3 R3 hownj hownj' Rj hbj hcells
              refine ⟨by kernel_rfl, ?_⟩
              go_wp2_with fail
              go_roundw
              case rel => exact ⟨j + 1, d + back + 1, outj ++ [x], A3, c3, by go_num, by omega, by omega, by omega, hl4, hcp2, hRS4, hB5⟩
              case measure => simp [intOf]; omega
            · obtain rfl : j = cn - 124 := by omega
              have hfin : cpy (cn - 124) back out = outj := by rw [← hcp.out, Nat.sub_self]; rfl
              replace hfin := hide hfin
              go_wp2_with fail
              go_ret
              refine ⟨by rw [hord3.out]; rfl, ?_, hBj.out⟩
              intro rest' out' h
              rw [hord3.out] at h
              cases h
              rw [hfin.out]
              exact ⟨_, _, _, _, hRj.out⟩
end Go.Proofs.Yteofooecfedplaa
