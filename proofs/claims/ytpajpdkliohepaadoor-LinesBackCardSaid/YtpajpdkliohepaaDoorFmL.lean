/- loggiaref31: Parse. -/
import Derived.Test.YtpajpdkliohepaaDoorFmJ
namespace Go.Proofs.YtpajpdkliohepaaDoor
open Go.RowKit

theorem bytes_sub (l : List UInt8) (i j : Nat) : (⟨l.toArray⟩ : ByteArray).extract i j = ⟨((l.drop i).take (j - i)).toArray⟩ := by
  have : ((⟨l.toArray⟩ : ByteArray).extract i j).data = ((l.drop i).take (j - i)).toArray := by
    simp
  generalize (⟨l.toArray⟩ : ByteArray).extract i j = x at this
  cases x
  simp only at this
  rw [this]
set_option maxRecDepth 100000 in
theorem run_strsub (l : List UInt8) (i j : Nat) (hij : i ≤ j) (hj : j ≤ l.length) {z y : Int} (hz : z = (i : Int)) (hy : y = (j : Int)) (W : World) : (Instr.sliceAt 9 (.string ⟨l.toArray⟩) (some (.int .i64 z)) (some (.int .i64 y)) none).run Tryd.prog W = .ok (.string ⟨((l.drop i).take (j - i)).toArray⟩) W := by
  subst hz hy
  rw [run_sliceAt_string W 9 _ _ _ _ Tryd.underlying9]
  have hsz : (⟨l.toArray⟩ : ByteArray).size = l.length := ByteArray.size_mk_toArray l
  simp only [Instr.slice, Sem.run_bind, run_underlying Tryd.underlying9, Result.andThen_ok, Instr.sliceBounds, hsz, Option.isSome_none, Bool.false_eq_true, if_false, Sem.run_pure]
  rw [run_sliceBound W .i64 (j : Int) l.length _ (by omega) (by omega)]
  simp only [Result.andThen_ok, Int.toNat_natCast]
  rw [run_sliceBound W .i64 (i : Int) j _ (by omega) (by omega)]
  simp only [Result.andThen_ok, Int.toNat_natCast, bytes_sub]
/-- What number answers, as a head. -/
theorem num_head {line : List UInt8} {n : Int} {a0 i : Nat} (hi : a0 + i ≤ line.length)
    (hc : a0 = 1 ∧ line.head? = some 45 ∧ n = wrap64 (-(wrap64 (digV ((line.drop a0).take i)))) ∨ a0 = 0 ∧ line.head? ≠ some 45 ∧ n = wrap64 (digV ((line.drop a0).take i))) (hd : ∀ c ∈ (line.drop a0).take i, isDig c = true) (hst : ∀ d, line[a0 + i]? = some d → a0 + i < 20 → isDig d = false) :
    HeadV line n (line.drop (a0 + i)) := fun at_ fs ha he => by
  rw [fmtL_eq] at he
  obtain ⟨h1, h2⟩ := num_itoa ha.1 ha.2 he.symm (flds_head fs) hi hc hd hst
  exact ⟨h1.symm, by rw [← he, h2]; exact List.drop_left' rfl⟩
set_option maxRecDepth 100000 in
set_option maxHeartbeats 4000000 in
theorem rparse_any (line : List UInt8) (w : World) (hl : line.length ≤ 1000000) : Calls Tryd.prog 12 #[.string ⟨line.toArray⟩] w fun en w' => ParP w line en w' := by
  obtain ⟨W, hW⟩ : ∃ W, W = w.alloc (.cells #[.int .i64 0, .slice none 0 0] 24) := ⟨_, rfl⟩
  have hEW : Ext w W := by rw [hW]; exact (Ext.refl w).alloc _
  have hrow : Row W w.heap.size 24 #[.int .i64 0, .slice none 0 0] := by rw [hW]; exact Row.new w _ _
  have hnm := hide (rnumber_any line W hl)
  obtain ⟨g, hg⟩ : ∃ g, g = w.heap.size + 1 := ⟨_, rfl⟩
  have hsz0 : W.heap.size = g := by rw [hW, hg]; simp
  have hlt : w.heap.size < g := by omega
  clear hg
  replace hW := hide hW
  go_enter Tryd.func12, Tryd.ntmps12
  go_wp2_with fail
  rw [← hW.out]
  refine hnm.out.mono ?_
  rintro en w1 ⟨⟨a0, i, v, rfl, hi, hvb, hc, hd, hst⟩, rfl⟩
  have hHV := num_head hi hc hd hst
  have hvb' : I64ok' v := hvb
  obtain ⟨p0, hp0⟩ : ∃ p0, p0 = a0 + i := ⟨_, rfl⟩
  rw [← hp0] at hHV hi ⊢
  replace hHV := hide hHV
  clear hc hd hst hp0 hvb
  go_wp2_with fail
  obtain ⟨W3, hW3⟩ : ∃ W3, W3 = (w1.alloc (.cells #[.int .i64 v, .slice none 0 0] 24)) := ⟨_, rfl⟩
  have hrE : Row W3 g 24 #[.int .i64 v, .slice none 0 0] := by
    have := Row.new w1 24 #[.int .i64 v, .slice none 0 0]
    rw [hsz0] at this
    rw [hW3]
    exact this
  have hr3 : Row W3 w.heap.size 24 #[.int .i64 0, .slice none 0 0] := by rw [hW3]; exact hrow.alloc _
  have hE03 : Ext w W3 := by rw [hW3]; exact hEW.alloc _
  have hsz3 : W3.heap.size = g + 1 := by rw [hW3, ← hsz0]; simp
  rw [← hW3]
  clear hW3 hrow hEW hnm hsz0
  go_loopw [5] (fun s5 wr => ∃ (read : List Fd) (p n : Nat) (A : Option Addr) (c : Nat), s5 = .int .i64 (p : Int) ∧ p ≤ line.length ∧ n ≤ 17 ∧ Hid (n = read.length) ∧ Hid (∀ f ∈ read, f.1.length ≤ 1000000 ∧ f.2.length ≤ 1000000) ∧ Hid (FitsE (line.drop p0) read (line.drop p)) ∧ Hid (Row wr g 24 #[.int .i64 v, .slice A n c]) ∧
      Hid (wr.ownsRow (g + 1) 52 2 (.slice A n c) n (fcells read)) ∧ Hid (Row wr w.heap.size 24 #[.int .i64 0, .slice none 0 0]) ∧ Hid (Ext w wr)) (fun s5 _ => line.length - (intOf s5).toNat)
  case atStart => exact ⟨[], p0, 0, none, 0, rfl, hi, by omega, hide rfl, hide nofun, hide (FitsE.start _), hide hrE, hide ⟨rfl, .inl ⟨rfl, rfl⟩⟩, hide hr3, hide hE03⟩
  case round =>
    obtain ⟨read, p, n, A, c, rfl, hp, hn, hnr, hlg, hF, hev, hown, hr, hE⟩ := hrel
    have k1 : wr.cell? ⟨g, 1, none⟩ = some (.slice A n c) := Row.cell hev.out 1 rfl
    have k2 : wr.cell? ⟨g, 0, none⟩ = some (.int .i64 v) := Row.cell hev.out 0 rfl
    have hrlen := hide (show (line.drop p).length = line.length - p by rw [List.length_drop])
    by_cases hgo : p < line.length ∧ n ≤ 16
    · obtain ⟨hpL, hn16⟩ := hgo
      obtain ⟨x, r0, hxr⟩ : ∃ x r0, line.drop p = x :: r0 := by
        cases h : line.drop p with
        | nil => have := hrlen.out; rw [h] at this; simp at this; omega
        | cons c r => exact ⟨c, r, rfl⟩
      have hix : line[p]? = some x := by
        have := List.getElem?_drop (xs := line) (i := p) (j := 0)
        rw [hxr] at this
        simpa using this.symm
      have hrun := fun W => run_strindex hix (z := (p : Int)) rfl W
      by_cases h32 : x.toNat = 32
      · obtain rfl : x = 32 := UInt8.toNat_inj.1 h32
        rw [show ((32 : UInt8).toNat : Int) = 32 from rfl] at hrun
        have hrestlen : r0.length = line.length - p - 1 := by
          have := hrlen.out
          rw [hxr, List.length_cons] at this
          omega
        have h0d : line.drop (p + 1) = r0 := by
          have := List.drop_drop (i := 1) (j := p) (l := line)
          rw [hxr] at this
          exact this.symm
        replace hix := hide hix
        replace hxr := hide hxr
        replace h0d := hide h0d
        replace hrestlen := hide hrestlen
        clear h32
        go_wp2_with fail
        go_loopw [5] (fun s5 wx => ∃ j : Nat, s5 = .int .i64 (j : Int) ∧ p ≤ j ∧ j ≤ line.length ∧ Hid (61 ∉ (line.drop p).take (j - p)) ∧ wx = wr) (fun s5 _ => line.length - (intOf s5).toNat)
        case atStart => exact ⟨p, rfl, by omega, by omega, hide (by simp), rfl⟩
        case round =>
          obtain ⟨j, rfl, hpj, hjL, hno61, rfl⟩ := hrel
          by_cases hjl : j < line.length
          · obtain ⟨y, hy⟩ : ∃ y, line[j]? = some y := ⟨_, List.getElem?_eq_getElem hjl⟩
            have hrunj := fun W => run_strindex hy (z := (j : Int)) rfl W
            by_cases h61 : y.toNat = 61
            · obtain rfl : y = 61 := UInt8.toNat_inj.1 h61
              rw [show ((61 : UInt8).toNat : Int) = 61 from rfl] at hrunj
              have hpj1 : p + 1 ≤ j := by
                rcases Nat.eq_or_lt_of_le hpj with he | he
                · subst he
                  have := hix.out
                  rw [hy] at this
                  cases this
                · exact he
              obtain ⟨nm, hnmd⟩ : ∃ nm, nm = (line.drop (p + 1)).take (j - (p + 1)) := ⟨_, rfl⟩
              obtain ⟨t, htd⟩ : ∃ t, t = line.drop (j + 1) := ⟨_, rfl⟩
              have hrest : line.drop p = 32 :: (nm ++ 61 :: t) := by
                rw [hxr.out, hnmd, htd, h0d.out]
                congr 1
                have h1 : r0.drop (j - (p + 1)) = 61 :: line.drop (j + 1) := by
                  rw [← h0d.out, List.drop_drop, show p + 1 + (j - (p + 1)) = j by omega]
                  obtain ⟨hj, hy2⟩ := List.getElem?_eq_some_iff.1 hy
                  rw [List.drop_eq_getElem_cons hj, hy2]
                rw [← h1]
                exact (List.take_append_drop _ _).symm
              have h61n : 61 ∉ nm := fun h => by
                have h2 := hno61.out
                rw [hxr.out, show j - p = (j - (p + 1)) + 1 by omega, List.take_succ_cons] at h2
                rw [hnmd, h0d.out] at h
                exact h2 (List.mem_cons_of_mem _ h)
              have htl : t.length + (j + 1) = line.length := by rw [htd, List.length_drop]; omega
              have hsub := fun W => run_strsub line (p + 1) j hpj1 (by omega) (z := (p : Int) + 1) (y := (j : Int)) (by omega) rfl W
              rw [← hnmd] at hsub
              have htlr := fun W => run_strtail line (j + 1) (by omega) (z := (j : Int) + 1) (by omega) W
              rw [← htd] at htlr
              have huq := hide (runquote_any t wr (by omega))
              have hdr := fun k => List.drop_drop (i := k) (j := j + 1) (l := line)
              rw [← htd] at hdr
              replace hdr := hide hdr
              replace hrest := hide hrest
              replace h61n := hide h61n
              replace hnmd := hide hnmd
              replace htd := hide htd
              replace htl := hide htl
              clear hy h61
              go_wp2_with fail
              refine huq.out.mono ?_
              rintro en w4 ⟨tx, k, ok, rfl, hU, hE4⟩
              have hr5 := hr.out.ext hE4
              have f5 := fun i => hr5.free i
              have d0 := hr5.cell 0 rfl
              have d1 := hr5.cell 1 rfl
              have hE04 := hide (hE.out.trans hE4)
              cases ok with
              | false =>
                have hno := hide (no_field hHV.out hF.out (by rw [hrest.out]; simp) (fun nm' tx' r h61 he => by
                  rw [hrest.out, field_app] at he
                  injection he with _ he
                  obtain ⟨_, he⟩ := split_uniq he h61n.out h61
                  rcases hU with ⟨h, _⟩ | ⟨_, _, _, h⟩
                  · cases h
                  · exact h _ _ he))
                replace hr5 := hide hr5
                clear hU
                go_wp2_with fail
                obtain ⟨wz, hwz⟩ : ∃ wz, wz = setEv w4 w.heap.size 0 none 0 0 := ⟨_, rfl⟩; have hk := setEv_row hr5.out 0 none 0 0; rw [← hwz] at hk; have hEz := setEv_ext hE04.out (Nat.le_refl _) 0 none 0 0; rw [← hwz] at hEz; unfold setEv at hwz; rw [← hwz]; have k0 : wz.cell? ⟨w.heap.size, 0, none⟩ = some (.int .i64 0) := hk.cell 0 rfl; have k1 : wz.cell? ⟨w.heap.size, 1, none⟩ = some (.slice none 0 0) := hk.cell 1 rfl; clear hwz hk; exact bodyPost_ret (v := .tuple #[.agg #[.int .i64 0, .slice none 0 0], .int .i64 310]) (by simp [results, Tryd.results12, go_sem, k0, k1]) rfl ⟨hEz, .inr ⟨rfl, hno.out⟩⟩
              | true =>
                obtain ⟨hk, r, htr⟩ : k = (quoteL tx).length ∧ ∃ r, t = quoteL tx ++ r := by
                  rcases hU with ⟨_, h1, h2⟩ | ⟨h, _⟩
                  · exact ⟨h1, h2⟩
                  · cases h
                have hkl : k ≤ t.length := by rw [htr, List.length_append, hk]; omega
                have hF2 := hF.out.step (f := (nm, tx)) (r := r) (by rw [hrest.out, htr, field_app]) h61n.out
                have hnd : line.drop (j + 1 + k) = r := by rw [← hdr.out, htr, hk]; exact List.drop_left' rfl
                rw [← hnd] at hF2
                replace hF2 := hide hF2
                have hfl := field_long (show line.drop p = fieldL (nm, tx) ++ r by rw [hrest.out, htr, field_app])
                have hlg2 : Hid (∀ f ∈ read ++ [(nm, tx)], f.1.length ≤ 1000000 ∧ f.2.length ≤ 1000000) := fun f hf => by
                  have := hrlen.out
                  rcases List.mem_append.1 hf with hf | hf
                  · exact hlg.out f hf
                  · rw [List.mem_singleton.1 hf]; simp only; omega
                have hkL : j + 1 + k ≤ line.length := by have := htl.out; omega
                have hev4 := hev.out.ext hE4
                have hown4 := hE4.owns hown.out
                have q1 : w4.cell? ⟨g, 1, none⟩ = some (.slice A n c) := hev4.cell 1 rfl
                have q1d : w4.drew.cell? ⟨g, 1, none⟩ = some (.slice A n c) := hev4.cell 1 rfl
                clear hU hk htr hkl hnd hfl hr5 f5 d0 d1
                go_wp2_with fail
                refine wp_region_text follows (by kernel_rfl) (by kernel_rfl) (fun K hK => ?_)
                have hne2 : ∀ k, (Value.slice A n c).ownBlock = some k → g + 1 ≤ k := fun k hk => by obtain ⟨_, _, hb⟩ := owns_row hown4 hk; exact hb
                have hsz5 : g + 1 ≤ w4.drew.heap.size := hev4.lt
                have hown5 : w4.drew.ownsRow (g + 1) 52 2 (.slice A n c) n (fcells read) := (Ext.refl w4).drew.owns hown4
                go_wp2_with (at_builtin; refine wpList_appS (us := [.string ⟨nm.toArray⟩, .string ⟨tx.toArray⟩]) (m := 1) elemFd hown5 (.tmp 67) (.tmp 74) rfl rfl rfl rfl rfl (one_of rfl) (by omega) hsz5 (fun A6 c6 w6 ho6 hg6 hl6 => ?_); have hev6 := Row.grown hev4.drew hg6 (fun e => by have := hne2 _ e.symm; omega); have q2 : w6.cell? ⟨g, 1, none⟩ = some (.slice A n c) := hev6.cell 1 rfl; have qf := hev6.free 1; have hev6h := hide hev6; have hg6h := hide hg6; have ho6h := hide ho6; clear hg6 ho6 hev6 hl6)
                refine ⟨by kernel_rfl, ?_⟩
                go_wp2_with fail
                have hC6 : Chg (fun k => g + 1 ≤ k) w4 w6 := (Chg.of_ext (Ext.refl w4).drew (fun k => g + 1 ≤ k)).trans (Chg.of_grown (S := fun k => g + 1 ≤ k) hg6h.out fun k _ hk => hne2 k hk) fun _ _ h => h
                have hC7 : Chg (fun k => g ≤ k) w4 (w6.setCell ⟨g, 1, none⟩ (.slice A6 (n + 1) c6)) := (hC6.mono fun i _ h => by omega).trans (Chg.of_set (S := fun k => g ≤ k) w6 (a := ⟨g, 1, none⟩) (.slice A6 (n + 1) c6) (Nat.le_refl _)) fun _ _ h => h
                have hne6 : (Value.slice A6 (n + 1) c6).ownBlock ≠ some g := fun e => by
                  obtain ⟨_, _, hb⟩ := owns_row ho6h.out e
                  omega
                refine ⟨⟨read ++ [(nm, tx)], j + 1 + k, n + 1, A6, c6, by go_num, hkL, by omega, hide (by rw [List.length_append, ← hnr.out]; rfl), hlg2, hF2, hide (hev6h.out.put 1 _), hide (by rw [fcells_snoc]; exact owns_set ho6h.out hne6 _), hide (hC7.row (hr.out.ext hE4) (by omega)), hide (hE04.out.chg hC7 fun i hi h => by omega)⟩, ?_⟩
                simp only [intOf]
                omega
            · have hy61 : ¬ (y.toNat : Int) = 61 := by omega
              have hsn : (line.drop p).take (j + 1 - p) = (line.drop p).take (j - p) ++ [y] := by
                rw [show j + 1 - p = (j - p) + 1 by omega]
                exact take_one2 (by rw [List.getElem?_drop, show p + (j - p) = j by omega]; exact hy)
              have hn61 := hide (show 61 ∉ (line.drop p).take (j + 1 - p) by
                rw [hsn]
                intro h
                rcases List.mem_append.1 h with h | h
                · exact hno61.out h
                · rw [← List.mem_singleton.1 h] at h61
                  exact h61 rfl)
              clear hsn hy h61
              go_wp2_with fail
              go_roundw
              case rel => exact ⟨j + 1, by go_num, by omega, by omega, hn61, trivial⟩
              case measure => simp [intOf]; omega
          · have hjL2 : j = line.length := by omega
            have hno := hide (no_field hHV.out hF.out (by rw [hxr.out]; simp) (fun nm tx r h61 he => by
              have h := hno61.out
              rw [List.take_of_length_le (by have := hrlen.out; omega), he, field_app] at h
              exact h (by simp)))
            have hr5 := hr.out
            have f5 := fun i => hr5.free i
            have d0 := hr5.cell 0 rfl
            have d1 := hr5.cell 1 rfl
            replace hr5 := hide hr5
            replace hjL2 := hide hjL2
            go_wp2_with fail
            obtain ⟨wz, hwz⟩ : ∃ wz, wz = setEv wr w.heap.size 0 none 0 0 := ⟨_, rfl⟩; have hk := setEv_row hr.out 0 none 0 0; rw [← hwz] at hk; have hEz := setEv_ext hE.out (Nat.le_refl _) 0 none 0 0; rw [← hwz] at hEz; unfold setEv at hwz; rw [← hwz]; have k0 : wz.cell? ⟨w.heap.size, 0, none⟩ = some (.int .i64 0) := hk.cell 0 rfl; have k1 : wz.cell? ⟨w.heap.size, 1, none⟩ = some (.slice none 0 0) := hk.cell 1 rfl; clear hwz hk; exact bodyPost_ret (v := .tuple #[.agg #[.int .i64 0, .slice none 0 0], .int .i64 310]) (by simp [results, Tryd.results12, go_sem, k0, k1]) rfl ⟨hEz, .inr ⟨rfl, hno.out⟩⟩
      · have hx32 : ¬ (x.toNat : Int) = 32 := by omega
        have hno := hide (no_field hHV.out hF.out (by rw [hxr]; simp) (fun nm tx r _ he => h32 (by rw [hxr, field_app] at he; injection he with he _; rw [he]; rfl)))
        have hr5 := hr.out
        have f5 := fun i => hr5.free i
        have d0 := hr5.cell 0 rfl
        have d1 := hr5.cell 1 rfl
        replace hr5 := hide hr5
        clear hxr hix h32
        go_wp2_with fail
        obtain ⟨wz, hwz⟩ : ∃ wz, wz = setEv wr w.heap.size 0 none 0 0 := ⟨_, rfl⟩; have hk := setEv_row hr.out 0 none 0 0; rw [← hwz] at hk; have hEz := setEv_ext hE.out (Nat.le_refl _) 0 none 0 0; rw [← hwz] at hEz; unfold setEv at hwz; rw [← hwz]; have k0 : wz.cell? ⟨w.heap.size, 0, none⟩ = some (.int .i64 0) := hk.cell 0 rfl; have k1 : wz.cell? ⟨w.heap.size, 1, none⟩ = some (.slice none 0 0) := hk.cell 1 rfl; clear hwz hk; exact bodyPost_ret (v := .tuple #[.agg #[.int .i64 0, .slice none 0 0], .int .i64 310]) (by simp [results, Tryd.results12, go_sem, k0, k1]) rfl ⟨hEz, .inr ⟨rfl, hno.out⟩⟩
    · have hfm := hide (rformat_any ⟨v, read⟩ A c wr ⟨Cells.of_own hown.out, by simp only; have := hnr.out; omega, fun f hf => by have := hlg.out f hf; omega⟩ hvb')
      have hfin : (checkE read = 0 → fmtL v read ≠ line) → NoEv line := fun hh => by
        by_cases hn16 : n ≤ 16
        · have hre : line.drop p = [] := List.drop_eq_nil_of_le (by omega)
          have hF0 := hF.out
          rw [hre] at hF0
          exact no_done hHV.out hF0 hh
        · exact no_many hHV.out hF.out (by have := hnr.out; omega)
      replace hfin := hide hfin
      have hno : ¬ p < line.length ∨ p < line.length ∧ (16 : Int) < n := by omega
      clear hgo
      unfold Ev.val FmtP at hfm
      simp only at hfm
      rw [← hnr.out] at hfm
      obtain ⟨k, hk⟩ : ∃ k, k = checkE read := ⟨_, rfl⟩
      rw [← hk] at hfm hfin
      replace hk := hide hk
      by_cases hk0 : k = 0
      · subst hk0
        rw [if_pos rfl] at hfm
        obtain ⟨F, hFm⟩ : ∃ F, F = fmtL v read := ⟨_, rfl⟩
        rw [← hFm] at hfm hfin
        by_cases hFl : F = line
        · have hbe : (F == line) = true := beq_iff_eq.2 hFl
          replace hFm := hide (hFm.symm.trans hFl)
          clear hfin hFl
          rcases hno with he | ⟨he, h17⟩
          all_goals
            go_wp2_with fail
            refine hfm.out.mono ?_
            rintro en w5 ⟨rfl, hE5⟩
            have hr5 := hr.out.ext hE5
            have f5 := fun i => hr5.free i
            have d0 := hr5.cell 0 rfl
            have d1 := hr5.cell 1 rfl
            have k1' := hE5.cell k1
            have k2' := hE5.cell k2
            replace hr5 := hide hr5
            have hc5 := hide (hE5.owns hown.out)
            have hge5 := hide (show ∀ k, (Value.slice A n c).ownBlock = some k → ¬ k = w.heap.size from fun k hk h => by obtain ⟨_, _, hb⟩ := owns_row hown.out hk; omega)
            have hE05 := hide (hE.out.trans hE5)
            clear k1 k2
            go_wp2_with fail
            obtain ⟨wz, hwz⟩ : ∃ wz, wz = setEv w5 w.heap.size v A n c := ⟨_, rfl⟩
            have hk := setEv_row hr5.out v A n c
            have hcz := (setEv_chg w5 w.heap.size v A n c).owns hc5.out hge5.out
            have hEz := setEv_ext hE05.out (Nat.le_refl _) v A n c
            rw [← hwz] at hk hcz hEz
            unfold setEv at hwz
            rw [← hwz]
            have k0 : wz.cell? ⟨w.heap.size, 0, none⟩ = some (.int .i64 v) := hk.cell 0 rfl
            have k1 : wz.cell? ⟨w.heap.size, 1, none⟩ = some (.slice A n c) := hk.cell 1 rfl
            clear hwz hk
            exact bodyPost_ret (v := .tuple #[.agg #[.int .i64 v, .slice A n c], .int .i64 0]) (by simp [results, Tryd.results12, go_sem, k0, k1]) rfl ⟨hEz, .inl ⟨⟨v, read⟩, A, c, by unfold Ev.val; simp only; rw [← hnr.out], ⟨by simp only; rw [← hnr.out]; exact owns_lower hcz (by omega), fun f hf => by have := hlg.out f hf; omega, by simp only; have := hnr.out; omega⟩, hvb', by simpa using (by assumption : Hid (0 = checkE read)).out.symm, hFm.out⟩⟩
        · have hbe : (F == line) = false := beq_eq_false_iff_ne.2 hFl
          have hne := hide (hfin.out fun _ => hFl)
          clear hfin
          replace hFl := hide hFl
          replace hFm := hide hFm
          rcases hno with he | ⟨he, h17⟩
          all_goals
            go_wp2_with fail
            refine hfm.out.mono ?_
            rintro en w5 ⟨rfl, hE5⟩
            have hr5 := hr.out.ext hE5
            have f5 := fun i => hr5.free i
            have d0 := hr5.cell 0 rfl
            have d1 := hr5.cell 1 rfl
            replace hr5 := hide hr5
            have hE05 := hide (hE.out.trans hE5)
            go_wp2_with fail
            obtain ⟨wz, hwz⟩ : ∃ wz, wz = setEv w5 w.heap.size 0 none 0 0 := ⟨_, rfl⟩; have hk := setEv_row hr5.out 0 none 0 0; rw [← hwz] at hk; have hEz := setEv_ext hE05.out (Nat.le_refl _) 0 none 0 0; rw [← hwz] at hEz; unfold setEv at hwz; rw [← hwz]; have k0 : wz.cell? ⟨w.heap.size, 0, none⟩ = some (.int .i64 0) := hk.cell 0 rfl; have k1 : wz.cell? ⟨w.heap.size, 1, none⟩ = some (.slice none 0 0) := hk.cell 1 rfl; clear hwz hk; exact bodyPost_ret (v := .tuple #[.agg #[.int .i64 0, .slice none 0 0], .int .i64 310]) (by simp [results, Tryd.results12, go_sem, k0, k1]) rfl ⟨hEz, .inr ⟨rfl, hne.out⟩⟩
      · have hne := hide (hfin.out fun h => absurd h hk0)
        rw [if_neg hk0] at hfm
        have hk0' : ¬ (k : Int) = 0 := by omega
        clear hfin
        rcases hno with he | ⟨he, h17⟩
        all_goals
          go_wp2_with fail
          refine hfm.out.mono ?_
          rintro en w5 ⟨rfl, hE5⟩
          have hr5 := hr.out.ext hE5
          have f5 := fun i => hr5.free i
          have d0 := hr5.cell 0 rfl
          have d1 := hr5.cell 1 rfl
          replace hr5 := hide hr5
          have hE05 := hide (hE.out.trans hE5)
          go_wp2_with fail
          obtain ⟨wz, hwz⟩ : ∃ wz, wz = setEv w5 w.heap.size 0 none 0 0 := ⟨_, rfl⟩; have hk := setEv_row hr5.out 0 none 0 0; rw [← hwz] at hk; have hEz := setEv_ext hE05.out (Nat.le_refl _) 0 none 0 0; rw [← hwz] at hEz; unfold setEv at hwz; rw [← hwz]; have k0 : wz.cell? ⟨w.heap.size, 0, none⟩ = some (.int .i64 0) := hk.cell 0 rfl; have k1 : wz.cell? ⟨w.heap.size, 1, none⟩ = some (.slice none 0 0) := hk.cell 1 rfl; clear hwz hk; exact bodyPost_ret (v := .tuple #[.agg #[.int .i64 0, .slice none 0 0], .int .i64 310]) (by simp [results, Tryd.results12, go_sem, k0, k1]) rfl ⟨hEz, .inr ⟨rfl, hne.out⟩⟩
end Go.Proofs.YtpajpdkliohepaaDoor
