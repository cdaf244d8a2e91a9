/- loggia/disk: Read. -/
import Derived.Test.YticnncgbfpgeaaaDkM
namespace Go.Proofs.Yticnncgbfpgeaaa
open Go.RowKit Go.Maps

/-- Behind the list of one name. -/
abbrev oneW (w : World) (s : List UInt8) : World := w.alloc (.cells #[.string ⟨s.toArray⟩] 9)
theorem may_one (base d : Nat) (P : PD) (F : Nat → Prop) (s : List UInt8) (w : World) (h : DS w base d P F) (hs : s.length ≤ 9223372036854775807) :
    Calls Try.prog 29 #[.pointer (some ⟨d, 0, none⟩), .slice (some ⟨w.heap.size, 0, none⟩) 1 1] (oneW w s) fun e w' => e = .returned (.int .i64 (mayM [s] P.stopped)) ∧ oneW w s = w' := by
  have hE : Ext w (oneW w s) := (Ext.refl w).alloc _
  obtain ⟨m, E, hD, hF⟩ := h.ext hE
  refine (may_any d m P.quota P.armed P.stopped (some ⟨w.heap.size, 0, none⟩) 1 1 [s] (oneW w s) hD.row rfl ?_ (by omega) (by simpa using hs)).mono fun e w' h => ⟨h.1, h.2.symm⟩
  refine .inr ⟨w.heap.size, 0, rfl, fun i v hv => ?_⟩
  rw [Nat.zero_add, cell_of_row _ _ _ _ _ _ (heap_alloc_new w _)]
  simpa [str] using hv
theorem may_ok {s : List UInt8} (h : namedM s = true) : mayM [s] false = 0 := by unfold mayM; simp [h]
theorem may_stop {s : List UInt8} (h : namedM s = true) : mayM [s] true = 63 := by unfold mayM; simp [h]
theorem may_bad {s : List UInt8} (b : Bool) (h : namedM s = false) : mayM [s] b = 60 := by unfold mayM; simp [h]
/-- What Read answers. -/
def ReadPost (P : PD) (s : List UInt8) (fr n : Int) (w : World) (e : Ending) (w' : World) : Prop :=
  ∃ A k c, e = .returned (.tuple #[.slice A k c, .int .i64 (readM P s fr n).2]) ∧ Buf w' w.heap.size 5 A k c ((readM P s fr n).1.map B8) ∧ k = (readM P s fr n).1.length ∧ Ext w w'
theorem readPost_err {P : PD} {s : List UInt8} {fr n : Int} {w w' : World} {k : Nat} (h : readM P s fr n = ([], k)) (he : Ext w w') : ReadPost P s fr n w (.returned (.tuple #[.slice none 0 0, .int .i64 k])) w' := by
  unfold ReadPost
  rw [h]
  exact ⟨none, 0, 0, rfl, Buf.nil _ _ _, rfl, he⟩
set_option maxRecDepth 100000 in
set_option maxHeartbeats 1000000 in
theorem read_any (base d : Nat) (P : PD) (F : Nat → Prop) (s : List UInt8) (fr n : Int) (w : World) (h : DS w base d P F) (hs : s.length ≤ 9223372036854775807) (hf1 : -9223372036854775808 ≤ fr) (hf2 : fr ≤ 9223372036854775807)
    (hn1 : -9223372036854775808 ≤ n) (hn2 : n ≤ 9223372036854775807) :
    Calls Try.prog 21 #[.pointer (some ⟨d, 0, none⟩), str s, .int .i64 fr, .int .i64 n] w (ReadPost P s fr n w) := by
  have hmay := may_one base d P F s w h hs
  have hE : Ext w (oneW w s) := (Ext.refl w).alloc _
  unfold str
  cases hnm : namedM s with
  | false =>
    have hr : readM P s fr n = ([], 60) := by unfold readM; rw [hnm]; rfl
    rw [may_bad _ hnm] at hmay
    have fin := readPost_err hr hE
    replace fin := hide fin
    replace hmay := hide hmay
    clear hr hnm h
    go_enter Try.func21, Try.ntmps21
    go_wp2_with fail
    refine hmay.out.mono ?_
    rintro e w1 ⟨rfl, rfl⟩
    go_wp2_with fail
    go_ret2
    exact fin.out
  | true =>
    cases hst : P.stopped with
    | true =>
      have hr : readM P s fr n = ([], 63) := by unfold readM; rw [hnm, hst]; rfl
      rw [hst, may_stop hnm] at hmay
      have fin := readPost_err hr hE
      replace fin := hide fin
      replace hmay := hide hmay
      clear hr hnm h hst
      go_enter Try.func21, Try.ntmps21
      go_wp2_with fail
      refine hmay.out.mono ?_
      rintro e w1 ⟨rfl, rfl⟩
      go_wp2_with fail
      go_ret2
      exact fin.out
    | false =>
      rw [hst, may_ok hnm] at hmay
      obtain ⟨m, E, hD, hF⟩ := h.ext hE
      have c0 : (oneW w s).cell? ⟨d, 0, none⟩ = some (.map (some m)) := Row.cell hD.row 0 rfl
      rcases hD.lookup s hs (oneW w s) rfl with ⟨e0, he0, hn, hrun⟩ | ⟨hno, hrun⟩
      · have hfd : P.find s = some e0.pl := by rw [← hn]; exact hD.find_in he0
        have cf : (oneW w s).cell? ⟨e0.f, 0, none⟩ = some (.slice e0.A e0.b.length e0.c) := (hD.fs.ok e0 he0).row.cell 0 rfl
        have hbuf := (hD.fs.ok e0 he0).buf
        have hlen := hD.lens e0 he0
        obtain ⟨bl, hbl⟩ : ∃ x, x = e0.b.length := ⟨_, rfl⟩
        rw [← hbl] at cf hbuf hlen
        unfold str at hrun
        by_cases hbad : fr < 0 ∨ (bl : Int) < fr ∨ n < 0
        · have hr : readM P s fr n = ([], 5) := by
            unfold readM
            rw [hnm, hst, hfd]
            simp only [if_true]
            show (if fr < 0 ∨ (e0.b.length : Int) < fr ∨ n < 0 then _ else _) = _
            rw [← hbl, if_pos hbad]
          have fin := readPost_err hr hE
          replace fin := hide fin
          replace hmay := hide hmay
          replace hn := hide hn
          replace hbl := hide hbl
          clear hr hnm h hst hfd hbuf
          rcases Int.lt_or_le fr 0 with h1 | h1
          · go_enter Try.func21, Try.ntmps21
            go_wp2_with fail
            refine hmay.out.mono ?_
            rintro e w1 ⟨rfl, rfl⟩
            go_wp2_with fail
            go_ret2
            exact fin.out
          · rcases Int.lt_or_le bl fr with h2 | h2
            · go_enter Try.func21, Try.ntmps21
              go_wp2_with fail
              refine hmay.out.mono ?_
              rintro e w1 ⟨rfl, rfl⟩
              go_wp2_with fail
              go_ret2
              exact fin.out
            · have h3 : n < 0 := by omega
              go_enter Try.func21, Try.ntmps21
              go_wp2_with fail
              refine hmay.out.mono ?_
              rintro e w1 ⟨rfl, rfl⟩
              go_wp2_with fail
              go_ret2
              exact fin.out
        · obtain ⟨f, rfl⟩ : ∃ f : Nat, fr = f := ⟨fr.toNat, by omega⟩
          obtain ⟨k, rfl⟩ : ∃ k : Nat, n = k := ⟨n.toNat, by omega⟩
          have hfl : f ≤ bl := by omega
          obtain ⟨k2, hk2⟩ : ∃ k2, k2 = min k (bl - f) := ⟨_, rfl⟩
          have hr : readM P s f k = ((e0.b.drop f).take k, 0) := by
            unfold readM
            rw [hnm, hst, hfd]
            simp only [if_true]
            show (if (f : Int) < 0 ∨ (e0.b.length : Int) < f ∨ (k : Int) < 0 then _ else _) = _
            rw [← hbl, if_neg hbad]
            rfl
          have hmin := run_min2 (P := Try.prog) #[3, 3] 3 (x := k) (y := (bl : Int) - f) (m := (k2 : Nat)) (by omega)
          have hA0 : e0.A = none → e0.c = 0 := by
            intro hA
            rcases hbuf.2.2 with h | ⟨g, cur, hg, _⟩
            · exact h.2
            · rw [hA] at hg; cases hg
          have hAs : ∀ a, e0.A = some a → a.spot = none := by
            intro a hA
            rcases hbuf.2.2 with h | ⟨g, cur, hg, _⟩
            · rw [hA] at h; cases h.1
            · rw [hA] at hg; cases hg; rfl
          obtain ⟨A', c', hsub, hcl, hz', hbk, hkc⟩ := run_sub (t := 27) (e := 5) (fr := f) (k := k2) Try.underlying27 (fun W => by kernel_rfl) (n := bl) (by omega) hbuf.2.1 hA0 hAs
          have hcells : Bs (oneW w s) A' ((e0.b.drop f).take k2) := by
            have := hcl _ _ hbuf.1 hbuf.cells
            unfold Bs
            rw [List.map_take, List.map_drop]
            exact this
          have hl2 : ((e0.b.drop f).take k2).length = k2 := by rw [List.length_take, List.length_drop, ← hbl]; omega
          have htk : (e0.b.drop f).take k2 = (e0.b.drop f).take k := by
            by_cases hc : k ≤ bl - f
            · rw [hk2, Nat.min_eq_left hc]
            · rw [hk2, Nat.min_eq_right (by omega), List.take_of_length_le (i := bl - f) (by rw [List.length_drop, ← hbl]; omega), List.take_of_length_le (i := k) (by rw [List.length_drop, ← hbl]; omega)]
          have hcln := clone_any A' k2 c' ((e0.b.drop f).take k2) (oneW w s).drew hl2.symm hcells hz' (by omega)
          replace htk := hide htk
          replace hl2 := hide hl2
          replace hr := hide hr
          replace hmay := hide hmay
          replace hn := hide hn
          replace hbl := hide hbl
          replace hcln := hide hcln
          replace hk2' := hide hk2
          have hk2b : (f : Int) + k2 ≤ bl := by omega
          clear hnm h hst hfd hbuf hcl hz' hbk hcells hk2
          go_enter Try.func21, Try.ntmps21
          go_wp2_with fail
          refine hmay.out.mono ?_
          rintro e w1 ⟨rfl, rfl⟩
          go_wp2_with fail
          refine wp_region_text follows (by kernel_rfl) (by kernel_rfl) (fun K hK => ?_)
          go_wp2_with fail
          refine hcln.out.mono ?_
          rintro e w3 ⟨A3, c3, rfl, hb3, hE3⟩
          go_wp2_with fail
          refine ⟨by kernel_rfl, ?_⟩
          go_wp2_with fail
          go_ret2
          unfold ReadPost
          rw [hr.out]
          refine ⟨A3, k2, c3, rfl, ?_, ?_, hE.drew.trans hE3⟩
          · rw [← htk.out]
            exact hb3.lower hE.size
          · rw [← htk.out]
            exact hl2.out.symm
      · have hr : readM P s fr n = ([], 61) := by unfold readM; rw [hnm, hst, hD.find_out hno]; rfl
        have fin := readPost_err hr hE
        unfold str at hrun
        replace fin := hide fin
        replace hmay := hide hmay
        clear hr hnm h hst hno
        go_enter Try.func21, Try.ntmps21
        go_wp2_with fail
        refine hmay.out.mono ?_
        rintro e w1 ⟨rfl, rfl⟩
        go_wp2_with fail
        go_ret2
        exact fin.out
end Go.Proofs.Yticnncgbfpgeaaa
