/- loggia/lines: Parse. -/
import Derived.Test.YtpajpdkliohepaaDoorFmK
namespace Go.Proofs.YtpajpdkliohepaaDoor
open Go.RowKit

set_option maxRecDepth 100000 in
set_option maxHeartbeats 4000000 in
theorem parse_any (line : List UInt8) (w : World) (hl : line.length ≤ 1000000) (hE : Errs w) (ht : Tabs w) (hm : MaxL w) (hml : 0 < w.heap.size) : Calls Tryd.prog 11 #[.string ⟨line.toArray⟩] w fun en w' => ParP w line en w' := by
  obtain ⟨W, hW⟩ : ∃ W, W = w.alloc (.cells #[.int .i64 0, .slice none 0 0] 24) := ⟨_, rfl⟩
  have hEW : Ext w W := by rw [hW]; exact (Ext.refl w).alloc _
  have hrow : Row W w.heap.size 24 #[.int .i64 0, .slice none 0 0] := by rw [hW]; exact Row.new w _ _
  have hct := hide (scut_any line [32] W hl (hm.ext hEW))
  obtain ⟨head, l0, hh, hcat, hhd⟩ := head_cut line
  obtain ⟨P, hP⟩ : ∃ P, P = Lib.cut line [32] := ⟨_, rfl⟩
  rw [← hP] at hct hh
  obtain ⟨P1, P2, P3⟩ := P
  simp only at hh hct
  subst hh
  have hhl : P1.length ≤ 1000000 := by rw [hcat, List.length_append] at hl; omega
  have hat := fun W (hE1 : Ext w W) => atoi_any P1 W (by omega) (hE.ext hE1)
  have hsl := fun W => run_strtail line P1.length (by rw [hcat, List.length_append]; omega) (z := (P1.length : Int)) rfl W
  rw [show line.drop P1.length = l0 by rw [hcat]; exact List.drop_left' rfl] at hsl
  have hl0 : l0.length ≤ 1000000 := by rw [hcat, List.length_append] at hl; omega
  replace hhd := hide hhd
  replace hat := hide hat
  replace hW := hide hW
  clear hP hcat
  go_enter Tryd.func11, Tryd.ntmps11
  go_wp2_with fail
  rw [← hW.out]
  refine hct.out.mono ?_
  rintro en w1 ⟨rfl, hE1⟩
  have ha1 := hide (hat.out w1 (hEW.trans hE1))
  go_wp2_with fail
  refine ha1.out.mono ?_
  rintro en w2 ⟨hE2, hc⟩
  rcases hc with ⟨v, rfl, hv⟩ | ⟨v, t, p, rfl, hv⟩
  · have hr2 := (hrow.ext hE1).ext hE2
    have hHV := hide (head_yes hhd.out hv)
    have hvb : I64ok' v := Lib.atoiAll_bounds hv
    have hE02 := hide ((hEW.trans hE1).trans hE2)
    have hlt2 := hr2.lt
    replace hr2 := hide hr2
    clear hv hhd ha1 hat hct
    go_wp2_with fail
    have hrE : Row ((w2.alloc (.cells #[.string ⟨l0.toArray⟩] 70)).alloc (.cells #[.int .i64 v, .slice none 0 0] 24)) (w2.heap.size + 1) 24 #[.int .i64 v, .slice none 0 0] := by
      have := Row.new (w2.alloc (.cells #[.string ⟨l0.toArray⟩] 70)) 24 #[.int .i64 v, .slice none 0 0]
      simpa using this
    have hrR : Rd ((w2.alloc (.cells #[.string ⟨l0.toArray⟩] 70)).alloc (.cells #[.int .i64 v, .slice none 0 0] 24)) w2.heap.size l0 := Row.alloc (Row.new w2 _ _) _
    have hr3 := (hr2.out.alloc (.cells #[.string ⟨l0.toArray⟩] 70)).alloc (.cells #[.int .i64 v, .slice none 0 0] 24)
    have hE03 := (hE02.out.alloc (.cells #[.string ⟨l0.toArray⟩] 70)).alloc (.cells #[.int .i64 v, .slice none 0 0] 24)
    have hl3 := leftOf_rd hrR
    obtain ⟨g, hg⟩ : ∃ g, g = w2.heap.size := ⟨_, rfl⟩
    rw [← hg] at hrE hrR hl3 hlt2
    obtain ⟨W3, hW3⟩ : ∃ W3, W3 = ((w2.alloc (.cells #[.string ⟨l0.toArray⟩] 70)).alloc (.cells #[.int .i64 v, .slice none 0 0] 24)) := ⟨_, rfl⟩
    have hsz3 : W3.heap.size = g + 2 := by rw [hW3, hg]; simp
    rw [← hW3] at hrE hrR hr3 hE03 hl3 ⊢
    rw [← hg]
    replace hl3 := hide hl3
    replace hg := hide hg
    replace hW3 := hide hW3
    go_loopw [12] (fun _ wr => ∃ (read : List Fd) (rest : List UInt8) (n : Nat) (A : Option Addr) (c : Nat), n ≤ 17 ∧ rest.length ≤ 1000000 ∧ Hid (n = read.length) ∧ Hid (∀ f ∈ read, f.1.length ≤ 1000000 ∧ f.2.length ≤ 1000000) ∧ Hid (FitsE l0 read rest) ∧ Hid (Rd wr g rest) ∧ Hid (Row wr (g + 1) 24 #[.int .i64 v, .slice A n c]) ∧
      Hid (wr.ownsRow (g + 2) 52 2 (.slice A n c) n (fcells read)) ∧ Hid (Row wr w.heap.size 24 #[.int .i64 0, .slice none 0 0]) ∧ Hid (Ext w wr)) (fun _ wr => leftOf wr g)
    case atStart => exact ⟨[], l0, 0, none, 0, by omega, hl0, hide rfl, hide nofun, hide (FitsE.start l0), hide hrR, hide hrE, hide ⟨rfl, .inl ⟨rfl, rfl⟩⟩, hide hr3, hide hE03⟩
    case round =>
      obtain ⟨read, rest, n, A, c, hn, hrl, hnr, hlg, hF, hR, hev, hown, hr, hE⟩ := hrel
      have k0 : wr.cell? ⟨g, 0, none⟩ = some (.string ⟨rest.toArray⟩) := Row.cell hR.out 0 rfl
      have k1 : wr.cell? ⟨g + 1, 1, none⟩ = some (.slice A n c) := Row.cell hev.out 1 rfl
      have k2 : wr.cell? ⟨g + 1, 0, none⟩ = some (.int .i64 v) := Row.cell hev.out 0 rfl
      have hlf := hide (leftOf_rd hR.out)
      by_cases hgo : rest ≠ [] ∧ n ≤ 16
      · obtain ⟨hne, hn16⟩ := hgo
        have hemp : rest.isEmpty = false := by cases rest with | nil => exact absurd rfl hne | cons => rfl
        have hfd := hide (lfield_any g rest wr hR.out hrl (hm.ext hE.out) (by omega))
        replace hne := hide hne
        go_wp2_with fail
        refine hfd.out.mono ?_
        rintro en w4 ⟨nm, tx, ok, s', rfl, h4, hsl', hc⟩
        have hE4 := hide (hE.out.chg h4.2 (fun i hi he => by omega))
        have hr4 := h4.2.row hr.out (by omega : ¬ w.heap.size = g)
        have hev4 := h4.2.row hev.out (by omega : ¬ g + 1 = g)
        have hown4 := h4.2.owns hown.out (fun k hk he => by obtain ⟨_, _, hb⟩ := owns_row hown.out hk; omega)
        rcases hc with ⟨rfl, hrs, h61⟩ | ⟨rfl, hno⟩
        · have hF2 := hide (hF.out.step hrs h61)
          have hfl := field_long hrs
          have hlg2 : Hid (∀ f ∈ read ++ [(nm, tx)], f.1.length ≤ 1000000 ∧ f.2.length ≤ 1000000) := fun f hf => by
            rcases List.mem_append.1 hf with hf | hf
            · exact hlg.out f hf
            · rw [List.mem_singleton.1 hf]; simp only; omega
          have hsr : s'.length < rest.length := by omega
          have hR4 := hide h4.1
          clear hrs h61 hfl h4 k0 k1 k2
          obtain ⟨w5, hw5⟩ : ∃ w5, w5 = (w4.alloc (.cells #[.string ⟨nm.toArray⟩, .string ⟨tx.toArray⟩] 52)) := ⟨_, rfl⟩
          have hE5 : Ext w4 w5 := by rw [hw5]; exact (Ext.refl w4).alloc _
          have hrf : Row w5 w4.heap.size 52 #[.string ⟨nm.toArray⟩, .string ⟨tx.toArray⟩] := by rw [hw5]; exact Row.new w4 _ _
          have e0 := hrf.cell 0 rfl
          have e1 := hrf.cell 1 rfl
          have hev5 := hev4.ext hE5
          have hk1 : w5.cell? ⟨g + 1, 1, none⟩ = some (.slice A n c) := hev5.cell 1 rfl
          rw [hw5] at e0 e1 hk1
          have hsz5 : g + 2 ≤ w5.heap.size := Nat.le_trans hev4.lt hE5.size
          rw [hw5] at hsz5
          have hown5 := hE5.owns hown4
          rw [hw5] at hown5
          have hE5w : Ext w4 (w4.alloc (.cells #[.string ⟨nm.toArray⟩, .string ⟨tx.toArray⟩] 52)) := (Ext.refl w4).alloc _
          have hne2 : ∀ k, (Value.slice A n c).ownBlock = some k → g + 2 ≤ k := fun k hk => by obtain ⟨_, _, hb⟩ := owns_row hown5 hk; exact hb
          have hev5w := hev4.alloc (.cells #[.string ⟨nm.toArray⟩, .string ⟨tx.toArray⟩] 52)
          go_wp2_with (at_builtin; refine wpList_appZ (us := [.string ⟨nm.toArray⟩, .string ⟨tx.toArray⟩]) (m := 1) elemFd hown5 (by simp) (.tmp 59) (.tmp 61) rfl rfl rfl rfl rfl (one_of rfl) (by omega) hsz5 (fun A6 c6 w6 ho6 hg6 hl6 => ?_); have hev6 := Row.grown hev5w hg6 (fun e => by have := hne2 _ e.symm; omega); have q1 : w6.cell? ⟨g + 1, 1, none⟩ = some (.slice A n c) := hev6.cell 1 rfl; have qf := hev6.free 1; have hev6h := hide hev6; have hg6h := hide hg6; have ho6h := hide ho6; clear hg6 ho6 hev6 hl6)
          have hC6 : Chg (fun k => g + 2 ≤ k) w4 w6 := (Chg.of_ext hE5w (fun k => g + 2 ≤ k)).trans (Chg.of_grown (S := fun k => g + 2 ≤ k) hg6h.out fun k _ hk => hne2 k hk) fun _ _ h => h
          have hC7 : Chg (fun k => g + 1 ≤ k) w4 (w6.setCell ⟨g + 1, 1, none⟩ (.slice A6 (n + 1) c6)) := (hC6.mono fun i _ h => by omega).trans (Chg.of_set (S := fun k => g + 1 ≤ k) w6 (a := ⟨g + 1, 1, none⟩) (.slice A6 (n + 1) c6) (Nat.le_refl _)) fun _ _ h => h
          have hR7 : Rd (w6.setCell ⟨g + 1, 1, none⟩ (.slice A6 (n + 1) c6)) g s' := hC7.row hR4.out (by omega : ¬ g + 1 ≤ g)
          have hne6 : (Value.slice A6 (n + 1) c6).ownBlock ≠ some (g + 1) := fun e => by
            obtain ⟨_, _, hb⟩ := owns_row ho6h.out e
            omega
          refine ⟨⟨read ++ [(nm, tx)], s', n + 1, A6, c6, by omega, by omega, hide (by rw [List.length_append, ← hnr.out]; rfl), hlg2, hF2, hide hR7, hide (hev6h.out.put 1 _), hide (by rw [fcells_snoc]; exact owns_set ho6h.out hne6 _), hide (hC7.row hr4 (by omega)), hide (hE4.out.chg hC7 fun i hi h => by omega)⟩, ?_⟩
          rw [leftOf_rd hR7, hlf.out]
          exact hsr
        · have hno2 := hide (no_field hHV.out hF.out hne.out hno)
          clear hno h4
          have hr5 := hr4.alloc (.cells #[.string ⟨nm.toArray⟩, .string ⟨tx.toArray⟩] 52)
          have f5 := fun i => hr5.free i
          have d0 := hr5.cell 0 rfl
          have d1 := hr5.cell 1 rfl
          replace hr5 := hide hr5
          have hE5 := hide (hE4.out.alloc (.cells #[.string ⟨nm.toArray⟩, .string ⟨tx.toArray⟩] 52))
          go_wp2_with fail
          obtain ⟨wz, hwz⟩ : ∃ wz, wz = setEv (w4.alloc (.cells #[.string ⟨nm.toArray⟩, .string ⟨tx.toArray⟩] 52)) w.heap.size 0 none 0 0 := ⟨_, rfl⟩; have hk := setEv_row hr5.out 0 none 0 0; rw [← hwz] at hk; have hEz := setEv_ext hE5.out (Nat.le_refl _) 0 none 0 0; rw [← hwz] at hEz; unfold setEv at hwz; rw [← hwz]; have k0 : wz.cell? ⟨w.heap.size, 0, none⟩ = some (.int .i64 0) := hk.cell 0 rfl; have k1 : wz.cell? ⟨w.heap.size, 1, none⟩ = some (.slice none 0 0) := hk.cell 1 rfl; clear hwz hk; exact bodyPost_ret (v := .tuple #[.agg #[.int .i64 0, .slice none 0 0], .int .i64 310]) (by simp [results, Tryd.results11, go_sem, k0, k1]) rfl ⟨hEz, .inr ⟨rfl, hno2.out⟩⟩
      · have hfm := hide (format_any ⟨v, read⟩ A c wr ⟨Cells.of_own hown.out, by simp only; have := hnr.out; omega, fun f hf => by have := hlg.out f hf; omega⟩ hvb (ht.ext hE.out))
        have hfin : (checkE read = 0 → fmtL v read ≠ line) → NoEv line := fun hh => by
          by_cases hn16 : n ≤ 16
          · have hre : rest = [] := Classical.byContradiction fun h => hgo ⟨h, hn16⟩
            subst hre
            exact no_done hHV.out hF.out hh
          · exact no_many hHV.out hF.out (by have := hnr.out; omega)
        replace hfin := hide hfin
        have hno : rest.isEmpty = true ∨ rest.isEmpty = false ∧ (16 : Int) < n := by
          by_cases hn16 : n ≤ 16
          · have hre : rest = [] := Classical.byContradiction fun h => hgo ⟨h, hn16⟩
            exact .inl (by rw [hre]; rfl)
          · cases rest.isEmpty with
            | true => exact .inl rfl
            | false => exact .inr ⟨rfl, by omega⟩
        clear hgo
        unfold Ev.val FmtP at hfm
        simp only at hfm
        rw [← hnr.out] at hfm
        obtain ⟨k, hk⟩ : ∃ k, k = checkE read := ⟨_, rfl⟩
        rw [← hk] at hfm hfin
        replace hk := hide hk
        by_cases hk0 : k = 0
        · subst hk0
          rw [if_pos rfl] at hfm
          obtain ⟨F, hFm⟩ : ∃ F, F = fmtL v read := ⟨_, rfl⟩
          rw [← hFm] at hfm hfin
          by_cases hFl : F = line
          · have hbe : (F == line) = true := beq_iff_eq.2 hFl
            replace hFm := hide (hFm.symm.trans hFl)
            clear hfin hFl
            rcases hno with he | ⟨he, h17⟩
            all_goals
              go_wp2_with fail
              refine hfm.out.mono ?_
              rintro en w5 ⟨rfl, hE5⟩
              have hr5 := hr.out.ext hE5
              have f5 := fun i => hr5.free i
              have d0 := hr5.cell 0 rfl
              have d1 := hr5.cell 1 rfl
              have k1' := hE5.cell k1
              have k2' := hE5.cell k2
              replace hr5 := hide hr5
              have hc5 := hide (hE5.owns hown.out)
              have hge5 := hide (show ∀ k, (Value.slice A n c).ownBlock = some k → ¬ k = w.heap.size from fun k hk h => by obtain ⟨_, _, hb⟩ := owns_row hown.out hk; omega)
              have hE05 := hide (hE.out.trans hE5)
              clear k0 k1 k2
              go_wp2_with fail
              obtain ⟨wz, hwz⟩ : ∃ wz, wz = setEv w5 w.heap.size v A n c := ⟨_, rfl⟩
              have hk := setEv_row hr5.out v A n c
              have hcz := (setEv_chg w5 w.heap.size v A n c).owns hc5.out hge5.out
              have hEz := setEv_ext hE05.out (Nat.le_refl _) v A n c
              rw [← hwz] at hk hcz hEz
              unfold setEv at hwz
              rw [← hwz]
              have k0 : wz.cell? ⟨w.heap.size, 0, none⟩ = some (.int .i64 v) := hk.cell 0 rfl
              have k1 : wz.cell? ⟨w.heap.size, 1, none⟩ = some (.slice A n c) := hk.cell 1 rfl
              clear hwz hk
              exact bodyPost_ret (v := .tuple #[.agg #[.int .i64 v, .slice A n c], .int .i64 0]) (by simp [results, Tryd.results11, go_sem, k0, k1]) rfl ⟨hEz, .inl ⟨⟨v, read⟩, A, c, by unfold Ev.val; simp only; rw [← hnr.out], ⟨by simp only; rw [← hnr.out]; exact owns_lower hcz (by omega), fun f hf => by have := hlg.out f hf; omega, by simp only; have := hnr.out; omega⟩, hvb, by simpa using (by assumption : Hid (0 = checkE read)).out.symm, hFm.out⟩⟩
          · have hbe : (F == line) = false := beq_eq_false_iff_ne.2 hFl
            have hne := hide (hfin.out fun _ => hFl)
            clear hfin
            replace hFl := hide hFl
            replace hFm := hide hFm
            rcases hno with he | ⟨he, h17⟩
            all_goals
              go_wp2_with fail
              refine hfm.out.mono ?_
              rintro en w5 ⟨rfl, hE5⟩
              have hr5 := hr.out.ext hE5
              have f5 := fun i => hr5.free i
              have d0 := hr5.cell 0 rfl
              have d1 := hr5.cell 1 rfl
              replace hr5 := hide hr5
              have hE05 := hide (hE.out.trans hE5)
              go_wp2_with fail
              obtain ⟨wz, hwz⟩ : ∃ wz, wz = setEv w5 w.heap.size 0 none 0 0 := ⟨_, rfl⟩; have hk := setEv_row hr5.out 0 none 0 0; rw [← hwz] at hk; have hEz := setEv_ext hE05.out (Nat.le_refl _) 0 none 0 0; rw [← hwz] at hEz; unfold setEv at hwz; rw [← hwz]; have k0 : wz.cell? ⟨w.heap.size, 0, none⟩ = some (.int .i64 0) := hk.cell 0 rfl; have k1 : wz.cell? ⟨w.heap.size, 1, none⟩ = some (.slice none 0 0) := hk.cell 1 rfl; clear hwz hk; exact bodyPost_ret (v := .tuple #[.agg #[.int .i64 0, .slice none 0 0], .int .i64 310]) (by simp [results, Tryd.results11, go_sem, k0, k1]) rfl ⟨hEz, .inr ⟨rfl, hne.out⟩⟩
        · have hne := hide (hfin.out fun h => absurd h hk0)
          rw [if_neg hk0] at hfm
          have hk0' : ¬ (k : Int) = 0 := by omega
          clear hfin
          rcases hno with he | ⟨he, h17⟩
          all_goals
            go_wp2_with fail
            refine hfm.out.mono ?_
            rintro en w5 ⟨rfl, hE5⟩
            have hr5 := hr.out.ext hE5
            have f5 := fun i => hr5.free i
            have d0 := hr5.cell 0 rfl
            have d1 := hr5.cell 1 rfl
            replace hr5 := hide hr5
            have hE05 := hide (hE.out.trans hE5)
            go_wp2_with fail
            obtain ⟨wz, hwz⟩ : ∃ wz, wz = setEv w5 w.heap.size 0 none 0 0 := ⟨_, rfl⟩; have hk := setEv_row hr5.out 0 none 0 0; rw [← hwz] at hk; have hEz := setEv_ext hE05.out (Nat.le_refl _) 0 none 0 0; rw [← hwz] at hEz; unfold setEv at hwz; rw [← hwz]; have k0 : wz.cell? ⟨w.heap.size, 0, none⟩ = some (.int .i64 0) := hk.cell 0 rfl; have k1 : wz.cell? ⟨w.heap.size, 1, none⟩ = some (.slice none 0 0) := hk.cell 1 rfl; clear hwz hk; exact bodyPost_ret (v := .tuple #[.agg #[.int .i64 0, .slice none 0 0], .int .i64 310]) (by simp [results, Tryd.results11, go_sem, k0, k1]) rfl ⟨hEz, .inr ⟨rfl, hne.out⟩⟩
  · have hr2 := (hrow.ext hE1).ext hE2
    have hno := hide (head_no hhd.out hv)
    have hE02 := hide ((hEW.trans hE1).trans hE2)
    have f2 := fun i => hr2.free i
    have d0 := hr2.cell 0 rfl
    have d1 := hr2.cell 1 rfl
    replace hr2 := hide hr2
    clear hv
    go_wp2_with fail
    obtain ⟨wz, hwz⟩ : ∃ wz, wz = setEv w2 w.heap.size 0 none 0 0 := ⟨_, rfl⟩; have hk := setEv_row hr2.out 0 none 0 0; rw [← hwz] at hk; have hEz := setEv_ext hE02.out (Nat.le_refl _) 0 none 0 0; rw [← hwz] at hEz; unfold setEv at hwz; rw [← hwz]; have k0 : wz.cell? ⟨w.heap.size, 0, none⟩ = some (.int .i64 0) := hk.cell 0 rfl; have k1 : wz.cell? ⟨w.heap.size, 1, none⟩ = some (.slice none 0 0) := hk.cell 1 rfl; clear hwz hk; exact bodyPost_ret (v := .tuple #[.agg #[.int .i64 0, .slice none 0 0], .int .i64 310]) (by simp [results, Tryd.results11, go_sem, k0, k1]) rfl ⟨hEz, .inr ⟨rfl, hno.out⟩⟩
end Go.Proofs.YtpajpdkliohepaaDoor
