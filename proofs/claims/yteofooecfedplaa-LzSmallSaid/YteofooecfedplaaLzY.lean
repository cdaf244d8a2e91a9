/- loggiaref05: Unpack. -/
import Derived.Test.YteofooecfedplaaLzX
namespace Go.Proofs.Yteofooecfedplaa
open Go.RowKit

theorem ordM_lit_yes {most : Nat} {c : UInt8} {r out : List UInt8} (h : c.toNat < 128) (h1 : c.toNat + 1 ≤ r.length) (h2 : out.length + (c.toNat + 1) ≤ most) : ordM most c r out = some (r.drop (c.toNat + 1), out ++ r.take (c.toNat + 1)) := by
  unfold ordM
  rw [if_pos h, if_pos ⟨h1, h2⟩]
theorem ordM_lit_no {most : Nat} {c : UInt8} {r out : List UInt8} (h : c.toNat < 128) (h1 : ¬ (c.toNat + 1 ≤ r.length ∧ out.length + (c.toNat + 1) ≤ most)) : ordM most c r out = none := by
  unfold ordM
  rw [if_pos h, if_neg h1]
theorem ordM_short {most : Nat} {c : UInt8} {r out : List UInt8} (h : ¬ c.toNat < 128) (h1 : r.length < 2) : ordM most c r out = none := by
  unfold ordM
  rw [if_neg h, if_pos h1]
theorem ordM_back {most : Nat} {c : UInt8} {r out : List UInt8} (h : ¬ c.toNat < 128) (h1 : ¬ r.length < 2) : ordM most c r out = if (r.getD 0 0).toNat * 256 + (r.getD 1 0).toNat = 0 ∨ out.length < (r.getD 0 0).toNat * 256 + (r.getD 1 0).toNat ∨ most < out.length + (c.toNat - 124) then none
    else some (r.drop 2, cpy (c.toNat - 124) ((r.getD 0 0).toNat * 256 + (r.getD 1 0).toNat) out) := by
  unfold ordM
  rw [if_neg h, if_neg h1]

set_option maxRecDepth 100000 in
set_option maxHeartbeats 2000000 in
theorem runpack_any (A : Option Addr) (c ln : Nat) (l : List UInt8) (w : World) (hln : ln = l.length) (hl : Bs w A l) (hA : ∀ a, A = some a → a.block < w.heap.size) (hn : ln ≤ 1048576) (hc : ln ≤ c) :
    Calls Try.prog 14 #[.slice A ln c] w fun e w' => ∃ A1 n1 c1, e = .returned (.tuple #[.slice A1 n1 c1, .int .i64 (upM l).2]) ∧ n1 = (upM l).1.length ∧ Bs w' A1 (upM l).1 ∧ Ext w w' := by
  have hsz := rsize_any A c l w hl (by rw [← hln]; exact hn)
  rw [← hln] at hsz
  replace hsz := hide hsz
  replace hln := hide hln
  by_cases he : (sizeM l).2 = 0
  · obtain ⟨h4, hm⟩ := sizeM_ok he
    rw [← hln.out] at h4
    obtain ⟨most, hmost⟩ : ∃ m, m = (sizeM l).1 := ⟨_, rfl⟩
    have hup : upM l = match upF most l.length (l.drop 4) [] with
      | none => ([], 50)
      | some out => if out.length = most then (out, 0) else ([], 50) := by
      unfold upM
      rw [if_pos he, ← hmost]
      rfl
    have hsz2 : Hid (Calls Try.prog 16 #[.slice A ln c] w fun e w' => e = .returned (.tuple #[.int .i64 most, .int .i64 0]) ∧ Ext w w') := by
      have := hsz.out
      rw [he, ← hmost] at this
      exact this
    rw [← hmost] at hm
    replace hmost := hide hmost
    replace hup := hide hup
    obtain ⟨g, o, rfl, hcl⟩ := hl.at_ (by rw [← hln.out]; omega)
    have hgw : g < w.heap.size := hA _ rfl
    clear hsz
    go_enter Try.func14, Try.ntmps14
    go_wp2_with fail
    refine hsz2.out.mono ?_
    rintro e w1 ⟨rfl, hE1⟩
    go_wp2_with fail
    go_loopw [6, 7] (fun s6 s7 wr => ∃ (f at_ n : Nat) (out : List UInt8) (Ao : Option Addr) (co : Nat), s7 = .int .i64 at_ ∧ s6 = .slice Ao n co ∧ 4 ≤ at_ ∧ at_ ≤ ln ∧ ln ≤ at_ + f ∧ Hid (n = out.length) ∧ n ≤ most ∧ Hid (upF most f (l.drop at_) out = upF most l.length (l.drop 4) []) ∧ Hid (wr.ownsRow w.heap.size 5 1 (.slice Ao n co) n (out.map B8)) ∧ Ext w wr) (fun _ s7 _ => ln - (intOf s7).toNat)
    case atStart => exact ⟨l.length, 4, 0, [], none, 0, rfl, rfl, by omega, by omega, by rw [← hln.out]; omega, rfl, by omega, rfl, hide ⟨rfl, .inl ⟨rfl, rfl⟩⟩, hE1⟩
    case round =>
      obtain ⟨f, at_, n, out, Ao, co, rfl, rfl, h4a, hal, hnf, hno, hnm, hu, hown, hE⟩ := hrel
      by_cases hat : at_ < ln
      · obtain ⟨f, rfl⟩ : ∃ f', f = f' + 1 := ⟨f - 1, by omega⟩
        have hcc := hE.cell (hcl at_ (by rw [← hln.out]; exact hat))
        obtain ⟨ch, hch⟩ : ∃ x, x = l[at_]'(by rw [← hln.out]; exact hat) := ⟨_, rfl⟩
        obtain ⟨cn, hcn⟩ : ∃ x, x = ch.toNat := ⟨_, rfl⟩
        rw [← hch, ← hcn] at hcc
        have hcn256 : cn < 256 := by rw [hcn]; exact ch.toNat_lt
        have hdr : l.drop at_ = ch :: l.drop (at_ + 1) := by rw [hch]; exact List.drop_eq_getElem_cons _
        have hrl : (l.drop (at_ + 1)).length = ln - (at_ + 1) := by rw [List.length_drop, ← hln.out]
        replace hu : upF most (f + 1) (ch :: l.drop (at_ + 1)) out = upF most l.length (l.drop 4) [] := by rw [← hdr]; exact hu.out
        replace hdr := hide hdr
        replace hrl := hide hrl
        replace hch := hide hch
        replace hcn := hide hcn
        replace hu := hide hu
        have hnone : Hid (ordM most ch (l.drop (at_ + 1)) out = none → upM l = ([], 50)) := fun h => by rw [hup.out, ← hu.out, upF_no h]
        by_cases hlit : cn < 128
        · by_cases hk1 : cn + 1 ≤ ln - (at_ + 1)
          · by_cases hk2 : n + (cn + 1) ≤ most
            · have hord := ordM_lit_yes (most := most) (c := ch) (r := l.drop (at_ + 1)) (out := out) (by rw [← hcn.out]; exact hlit) (by rw [← hcn.out, hrl.out]; exact hk1) (by rw [← hcn.out, ← hno.out]; exact hk2)
              rw [← hcn.out, List.drop_drop] at hord
              have hu2 := hu.out
              rw [upF_yes hord] at hu2
              have hcut := (hl.ext hE).cut (at_ + 1) (cn + 1)
              have hsl : (((l.drop (at_ + 1)).take (cn + 1)).map B8).length = (cn + 1) * 1 := by
                rw [List.length_map, List.length_take, hrl.out]
                omega
              replace hord := hide hord
              replace hu2 := hide hu2
              replace hsl := hide hsl
              have hos := hown.out
              have d1 : decide ((ln : Int) - ((at_ : Int) + 1) < (cn : Int) + 1) = false := decide_eq_false (by omega)
              have d2 : decide ((most : Int) - (n : Int) < (cn : Int) + 1) = false := decide_eq_false (by omega)
              have hEs := hE.size
              go_wp2_with (at_builtin; refine wpList_app (m := cn + 1) elemB hos hcut (.tmp 48) (.tmp 55) rfl rfl rfl rfl (by omega) hsl.out (bytes_one _) (by omega) hEs (fun A3 c3 w3 ho3 hg3 hl3 => ?_))
              have hE3 : Ext w w3 := hE.grown hg3 (fun k hk => (hos.lt k hk).1)
              have ho4 : w3.ownsRow w.heap.size 5 1 (.slice A3 (n + (cn + 1)) c3) (n + (cn + 1)) ((out ++ (l.drop (at_ + 1)).take (cn + 1)).map B8) := by
                rw [List.map_append]
                exact ho3
              have hl4 : n + (cn + 1) = (out ++ (l.drop (at_ + 1)).take (cn + 1)).length := by
                rw [List.length_append, List.length_take, hrl.out, ← hno.out]
                omega
              replace hl4 := hide hl4
              replace ho4 := hide ho4
              clear ho3 hg3 hl3 hcut hos hown
              go_roundw
              case rel => exact ⟨f, at_ + 1 + (cn + 1), n + (cn + 1), _, A3, c3, by go_num, rfl, by omega, by omega, by omega, hl4, by omega, hu2, ho4, hE3⟩
              case measure => simp [intOf]; omega
            · have hup2 := hnone.out (ordM_lit_no (by rw [← hcn.out]; exact hlit) (by rw [← hcn.out, ← hno.out]; omega))
              replace hup2 := hide hup2
              have d1 : decide ((ln : Int) - ((at_ : Int) + 1) < (cn : Int) + 1) = false := decide_eq_false (by omega)
              have d2 : decide ((most : Int) - (n : Int) < (cn : Int) + 1) = true := decide_eq_true (by omega)
              go_wp2_with fail
              go_ret2
              rw [hup2.out]
              exact ⟨_, _, _, rfl, rfl, .inl rfl, hE⟩
          · have hup2 := hnone.out (ordM_lit_no (by rw [← hcn.out]; exact hlit) (by rw [← hcn.out, hrl.out]; omega))
            replace hup2 := hide hup2
            have d1 : decide ((ln : Int) - ((at_ : Int) + 1) < (cn : Int) + 1) = true := decide_eq_true (by omega)
            go_wp2_with fail
            go_ret2
            rw [hup2.out]
            exact ⟨_, _, _, rfl, rfl, .inl rfl, hE⟩
        · by_cases hk : ln - (at_ + 1) < 2
          · have hup2 := hnone.out (ordM_short (by rw [← hcn.out]; exact hlit) (by rw [hrl.out]; exact hk))
            replace hup2 := hide hup2
            go_wp2_with fail
            go_ret2
            rw [hup2.out]
            exact ⟨_, _, _, rfl, rfl, .inl rfl, hE⟩
          · have hat1 : at_ + 1 < l.length := by rw [← hln.out]; omega
            have hat2 : at_ + 1 + 1 < l.length := by rw [← hln.out]; omega
            have hord := ordM_back (most := most) (c := ch) (r := l.drop (at_ + 1)) (out := out) (by rw [← hcn.out]; exact hlit) (by rw [hrl.out]; omega)
            obtain ⟨h0, hh0⟩ : ∃ x, x = ((l.drop (at_ + 1)).getD 0 0).toNat := ⟨_, rfl⟩
            obtain ⟨t0, ht0⟩ : ∃ x, x = ((l.drop (at_ + 1)).getD 1 0).toNat := ⟨_, rfl⟩
            have hh256 : h0 < 256 := by rw [hh0]; exact UInt8.toNat_lt _
            have ht256 : t0 < 256 := by rw [ht0]; exact UInt8.toNat_lt _
            rw [← hh0, ← ht0, ← hno.out, ← hcn.out, List.drop_drop] at hord
            have ch1 : wr.cell? ⟨g, o + (at_ + 1), none⟩ = some (.int .u8 (h0 : Int)) := by
              rw [hh0]
              simpa [List.getD, hat1] using hE.cell (hcl (at_ + 1) hat1)
            have ct1 : wr.cell? ⟨g, o + (at_ + 1 + 1), none⟩ = some (.int .u8 (t0 : Int)) := by
              rw [ht0]
              simpa [List.getD, hat2, Nat.add_assoc] using hE.cell (hcl (at_ + 1 + 1) hat2)
            have ch2 := ch1
            have ct2 := ct1
            rw [← Nat.add_assoc] at ch2 ct2
            rw [← Nat.add_assoc] at ct2
            obtain ⟨back, hback⟩ : ∃ x, x = h0 * 256 + t0 := ⟨_, rfl⟩
            rw [← hback] at hord
            have hbk : 256 * (h0 : Int) + (t0 : Int) = (back : Int) := by omega
            have hb16 : back < 65536 := by omega
            have hup2 : n < back ∨ back = 0 ∨ most < n + (cn - 124) → upM l = ([], 50) := fun h => hnone.out (by rw [hord, if_pos (by omega)])
            replace hup2 := hide hup2
            replace hord := hide hord
            replace hh0 := hide hh0
            replace ht0 := hide ht0
            replace hback := hide hback
            by_cases hz : back = 0
            · subst hz
              go_wp2_with fail
              refine wp_region_text follows (by kernel_rfl) (by kernel_rfl) (fun K hK => ?_)
              go_wp2_with fail
              refine ⟨by kernel_rfl, ?_⟩
              go_wp2_with fail
              go_ret2
              rw [hup2.out (by simp)]
              exact ⟨_, _, _, rfl, rfl, .inl rfl, hE.drew⟩
            · have hz' : ((back : Int) == 0) = false := beq_eq_false_iff_ne.2 (by omega)
              by_cases hlb : n < back
              · have d1 : decide ((n : Int) < (back : Int)) = true := decide_eq_true (by omega)
                go_wp2_with fail
                refine wp_region_text follows (by kernel_rfl) (by kernel_rfl) (fun K hK => ?_)
                go_wp2_with fail
                refine ⟨by kernel_rfl, ?_⟩
                go_wp2_with fail
                go_ret2
                rw [hup2.out (by omega)]
                exact ⟨_, _, _, rfl, rfl, .inl rfl, hE.drew⟩
              · have d1 : decide ((n : Int) < (back : Int)) = false := decide_eq_false (by omega)
                by_cases hmk : most < n + (cn - 124)
                · have d2 : decide ((most : Int) - (n : Int) < (cn : Int) - 124) = true := decide_eq_true (by omega)
                  go_wp2_with fail
                  refine wp_region_text follows (by kernel_rfl) (by kernel_rfl) (fun K hK => ?_)
                  go_wp2_with fail
                  refine ⟨by kernel_rfl, ?_⟩
                  go_wp2_with fail
                  go_ret2
                  rw [hup2.out (by omega)]
                  exact ⟨_, _, _, rfl, rfl, .inl rfl, hE.drew⟩
                · have d2 : decide ((most : Int) - (n : Int) < (cn : Int) - 124) = false := decide_eq_false (by omega)
                  have hu2 := hu.out
                  have hord2 := hord.out
                  rw [if_neg (by omega)] at hord2
                  rw [upF_yes hord2] at hu2
                  replace hu2 := hide hu2
                  clear hord2 hup2 hord
                  go_wp2_with fail
                  refine wp_region_text follows (by kernel_rfl) (by kernel_rfl) (fun K hK => ?_)
                  go_wp2_with fail
                  refine ⟨by kernel_rfl, ?_⟩
                  go_wp2_with fail
                  go_loopw [6, 10] (fun s6 s10 wq => ∃ (j m : Nat) (outj : List UInt8) (Aj : Option Addr) (cj : Nat), s10 = .int .i64 j ∧ s6 = .slice Aj m cj ∧ j ≤ cn - 124 ∧ m ≤ n + j ∧ n + j ≤ m ∧ Hid (m = outj.length) ∧ Hid (cpy (cn - 124 - j) back outj = cpy (cn - 124) back out) ∧ Hid (wq.ownsRow w.heap.size 5 1 (.slice Aj m cj) m (outj.map B8)) ∧ Ext w wq) (fun _ s10 _ => (cn - 124 - (intOf s10).toNat))
                  case atStart => exact ⟨0, n, out, Ao, co, rfl, rfl, by omega, by omega, by omega, hno, rfl, hown, hE.drew⟩
                  case round =>
                    obtain ⟨j, m, outj, Aj, cj, rfl, rfl, hj, hm1, hm2, hml, hcp, hownj, hEj⟩ := hrel
                    by_cases hjk : j < cn - 124
                    · have hos := hownj.out
                      have hEs := hEj.size
                      have hcells : Bs wr Aj outj := Cells.of_own hos
                      obtain ⟨gj, oj, hAj, hcj⟩ := hcells.at_ (by rw [← hml.out]; omega)
                      have hcx := hcj (m - back) (by rw [← hml.out]; omega)
                      obtain ⟨x, hx⟩ : ∃ x, x = outj[m - back]'(by rw [← hml.out]; omega) := ⟨_, rfl⟩
                      rw [← hx] at hcx
                      have hcp2 : cpy (cn - 124 - (j + 1)) back (outj ++ [x]) = cpy (cn - 124) back out := by
                        rw [← hcp.out, cpy_more _ _ _ _ hjk, ← hml.out, hx]
                        congr 2
                        simp [List.getD, show m - back < outj.length by rw [← hml.out]; omega]
                      replace hcp2 := hide hcp2
                      replace hx := hide hx
                      obtain ⟨d, hd⟩ : ∃ d, d = m - back := ⟨_, rfl⟩
                      obtain rfl : m = d + back := by omega
                      clear hd
                      simp only [Nat.add_sub_cancel] at hcx
                      have hdb : d + back + 1 ≤ most := by omega
                      have dj : decide ((j : Int) < (cn : Int) - 124) = true := decide_eq_true (by omega)
                      subst hAj
                      clear hcells hcj hown hcp
                      have hgj := World.block_lt_of_cell? _ _ hcx
                      go_wp2_with (at_builtin; refine wpList_appN (us := [Value.int .u8 x.toNat]) elemB hos (.tmp 104) (.tmp 112) rfl rfl rfl rfl (one_of rfl) (by simp; omega) hEs (fun A3 c3 w3 ho3 hg3 hl3 => ?_))
                      have hE3 : Ext w w3 := hEj.grown hg3 (fun k hk => (hos.lt k hk).1)
                      have ho4 : w3.ownsRow w.heap.size 5 1 (.slice A3 (d + back + 1) c3) (d + back + 1) ((outj ++ [x]).map B8) := by
                        rw [List.map_append]
                        exact ho3
                      have hl4 : d + back + 1 = (outj ++ [x]).length := by rw [List.length_append, ← hml.out]; rfl
                      replace hl4 := hide hl4
                      replace ho4 := hide ho4
                      clear ho3 hg3 hl3 hos hownj
                      go_roundw
                      case rel => exact ⟨j + 1, d + back + 1, outj ++ [x], A3, c3, by go_num, rfl, by omega, by omega, by omega, hl4, hcp2, ho4, hE3⟩
                      case measure => simp [intOf]; omega
                    · have dj : decide ((j : Int) < (cn : Int) - 124) = false := decide_eq_false (by omega)
                      obtain rfl : j = cn - 124 := by omega
                      have hfin : cpy (cn - 124) back out = outj := by rw [← hcp.out, Nat.sub_self]; rfl
                      have hu3 := hu2.out
                      rw [hfin] at hu3
                      replace hu3 := hide hu3
                      replace hfin := hide hfin
                      go_wp2_with fail
                      go_roundw
                      case rel => exact ⟨f, at_ + 1 + 2, m, outj, Aj, cj, by go_num, rfl, by omega, by omega, by omega, hml, by omega, hu3, hownj, hEj⟩
                      case measure => simp [intOf]; omega
      · obtain rfl : at_ = ln := by omega
        have hdn : l.drop at_ = [] := List.drop_eq_nil_of_le (by rw [← hln.out]; omega)
        have hup2 : upM l = if n = most then (out, 0) else ([], 50) := by
          rw [hup.out, ← hu.out, hdn, hno.out]
          cases f <;> rfl
        have hbs : Bs wr Ao out := Cells.of_own hown.out
        replace hbs := hide hbs
        by_cases hom : n = most
        · have hup3 : upM l = (out, 0) := by rw [hup2, if_pos hom]
          have hom' : ((n : Int) == (most : Int)) = true := by rw [hom]; exact beq_self_eq_true _
          replace hup3 := hide hup3
          replace hom := hide hom
          clear hup2
          go_wp2_with fail
          go_ret2
          rw [hup3.out]
          exact ⟨_, _, _, rfl, hno.out, hbs.out, hE⟩
        · have hup3 : upM l = ([], 50) := by rw [hup2, if_neg hom]
          have hom' : ((n : Int) == (most : Int)) = false := beq_eq_false_iff_ne.2 (by omega)
          replace hup3 := hide hup3
          replace hom := hide hom
          clear hup2
          go_wp2_with fail
          go_ret2
          rw [hup3.out]
          exact ⟨_, _, _, rfl, rfl, .inl rfl, hE⟩
  · have hup : upM l = ([], (sizeM l).2) := by unfold upM; rw [if_neg he]
    have he' : (((sizeM l).2 : Int) == 0) = false := beq_eq_false_iff_ne.2 (by omega)
    go_enter Try.func14, Try.ntmps14
    go_wp2_with fail
    refine hsz.out.mono ?_
    rintro e w1 ⟨rfl, hE1⟩
    replace hup := hide hup
    go_wp2_with fail
    go_ret2
    rw [hup.out]
    exact ⟨_, _, _, rfl, rfl, .inl rfl, hE1⟩
end Go.Proofs.Yteofooecfedplaa
