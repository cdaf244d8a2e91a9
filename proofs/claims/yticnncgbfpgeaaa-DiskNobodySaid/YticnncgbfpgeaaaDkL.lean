/- loggia/disk: New, Size, Durable, List. -/
import Derived.Test.YticnncgbfpgeaaaDkK
namespace Go.Proofs.Yticnncgbfpgeaaa
open Go.RowKit Go.Maps

theorem new_no (q : Int) (w : World) (hq : q < 0) :
    Calls Try.prog 8 #[.int .i64 q] w fun e w' => e = .returned (.tuple #[.pointer none, .int .i64 1]) ∧ w' = w := by
  go_enter Try.func8, Try.ntmps8
  go_wp2_with fail
  go_ret2
  exact ⟨rfl, rfl⟩
theorem fs_new (w : World) (base m : Nat) (hm : MapL Try.prog 9 w m []) (hb : base ≤ m) : FS w base m [] :=
  ⟨⟨[], hm, by simp, rfl⟩, by simp, hb, List.nodup_nil, by simp, List.Pairwise.nil, List.Pairwise.nil⟩
theorem new_yes (base : Nat) (q : Nat) (w : World) (hq : q ≤ 9223372036854775807) (hb : base ≤ w.heap.size) :
    Calls Try.prog 8 #[.int .i64 q] w fun e w' => ∃ d F, e = .returned (.tuple #[.pointer (some ⟨d, 0, none⟩), .int .i64 0]) ∧ DS w' base d ⟨[], q, 0, false⟩ F ∧ (∀ k, F k → w.heap.size ≤ k) ∧ Ext w w' := by
  have hm := MapL.made (P := Try.prog) (k := 9) w
  have hr := Row.new (w.alloc (.map #[] 0)) 63 #[.map (some w.heap.size), .int .i64 q, .int .i64 0, .bool false]
  have hm2 := hm.alloc (.cells #[.map (some w.heap.size), .int .i64 q, .int .i64 0, .bool false] 63)
  have hE : Ext w ((w.alloc (.map #[] 0)).alloc (.cells #[.map (some w.heap.size), .int .i64 q, .int .i64 0, .bool false] 63)) := ((Ext.refl w).alloc _).alloc _
  replace hr := hide hr
  have hmm := @run_makeMap Try.prog
  go_enter Try.func8, Try.ntmps8
  go_wp2_with fail
  go_ret2
  refine ⟨w.heap.size + 1, Foot (w.heap.size + 1) w.heap.size [], rfl, ⟨w.heap.size, [], ⟨?_, fs_new _ _ _ hm2 hb, by omega, List.Pairwise.nil, by simp, by simp, rfl, hq, by simp⟩, fun _ => Iff.rfl⟩, ?_, hE⟩
  · have h := hr.out
    have hs : (w.alloc (.map #[] 0)).heap.size = w.heap.size + 1 := by simp
    rw [hs] at h
    exact h
  · rintro k (rfl | rfl | ⟨e, he, _⟩)
    · omega
    · omega
    · cases he
set_option maxRecDepth 100000 in
set_option maxHeartbeats 1000000 in
theorem size_any (base d : Nat) (P : PD) (F : Nat → Prop) (s : List UInt8) (w : World) (h : DS w base d P F) (hs : s.length ≤ 9223372036854775807) :
    Calls Try.prog 27 #[.pointer (some ⟨d, 0, none⟩), str s] w fun e w' => e = .returned (.tuple #[.int .i64 (sizeM P s).1, .bool (sizeM P s).2]) ∧ w' = w := by
  obtain ⟨m, E, hD, hF⟩ := h
  have h0 := none_any d m P.quota P.armed P.stopped w hD.row
  have c0 : w.cell? ⟨d, 0, none⟩ = some (.map (some m)) := Row.cell hD.row 0 rfl
  have c3 : w.cell? ⟨d, 3, none⟩ = some (.bool P.stopped) := Row.cell hD.row 3 rfl
  replace h0 := hide h0
  cases hb : P.stopped with
  | true =>
    have hm : sizeM P s = (0, false) := by unfold sizeM; rw [hb]; rfl
    rw [hm]
    rw [hb] at c3
    replace hb := hide hb
    clear hm
    go_enter Try.func27, Try.ntmps27
    go_wp2_with fail
    refine h0.out.mono ?_
    rintro e w1 ⟨rfl, rfl⟩
    go_wp2_with fail
    go_ret2
    exact ⟨rfl, rfl⟩
  | false =>
    rw [hb] at c3
    rcases hD.lookup s hs w rfl with ⟨e0, he0, hn, hrun⟩ | ⟨hno, hrun⟩
    · have hm : sizeM P s = (e0.b.length, true) := by
        unfold sizeM
        rw [hb, ← hn, hD.find_in he0]
        rfl
      rw [hm]
      have cf : w.cell? ⟨e0.f, 0, none⟩ = some (.slice e0.A e0.b.length e0.c) := (hD.fs.ok e0 he0).row.cell 0 rfl
      obtain ⟨n, hnn⟩ : ∃ n, n = e0.b.length := ⟨_, rfl⟩
      rw [← hnn] at cf ⊢
      replace hnn := hide hnn
      replace hb := hide hb
      replace hn := hide hn
      clear hm
      go_enter Try.func27, Try.ntmps27
      go_wp2_with fail
      refine h0.out.mono ?_
      rintro e w1 ⟨rfl, rfl⟩
      go_wp2_with fail
      go_ret2
      exact ⟨rfl, rfl⟩
    · have hm : sizeM P s = (0, false) := by
        unfold sizeM
        rw [hb, hD.find_out hno]
        rfl
      rw [hm]
      replace hb := hide hb
      clear hm hno
      go_enter Try.func27, Try.ntmps27
      go_wp2_with fail
      refine h0.out.mono ?_
      rintro e w1 ⟨rfl, rfl⟩
      go_wp2_with fail
      go_ret2
      exact ⟨rfl, rfl⟩
set_option maxRecDepth 100000 in
set_option maxHeartbeats 1000000 in
theorem durable_any (base d : Nat) (P : PD) (F : Nat → Prop) (s : List UInt8) (w : World) (h : DS w base d P F) (hs : s.length ≤ 9223372036854775807) :
    Calls Try.prog 23 #[.pointer (some ⟨d, 0, none⟩), str s] w fun e w' => e = .returned (.int .i64 (durM P s)) ∧ w' = w := by
  obtain ⟨m, E, hD, hF⟩ := h
  have h0 := none_any d m P.quota P.armed P.stopped w hD.row
  have c0 : w.cell? ⟨d, 0, none⟩ = some (.map (some m)) := Row.cell hD.row 0 rfl
  replace h0 := hide h0
  rcases hD.lookup s hs w rfl with ⟨e0, he0, hn, hrun⟩ | ⟨hno, hrun⟩
  · have hm : durM P s = e0.sure := by
      unfold durM
      rw [← hn, hD.find_in he0]
      rfl
    rw [hm]
    have cf : w.cell? ⟨e0.f, 1, none⟩ = some (.int .i64 e0.sure) := (hD.fs.ok e0 he0).row.cell 1 rfl
    obtain ⟨n, hnn⟩ : ∃ n, n = e0.sure := ⟨_, rfl⟩
    rw [← hnn] at cf ⊢
    replace hnn := hide hnn
    replace hn := hide hn
    clear hm
    go_enter Try.func23, Try.ntmps23
    go_wp2_with fail
    refine h0.out.mono ?_
    rintro e w1 ⟨rfl, rfl⟩
    go_wp2_with fail
    go_ret
    exact ⟨rfl, rfl⟩
  · have hm : durM P s = 0 := by
      unfold durM
      rw [hD.find_out hno]
    rw [hm]
    clear hm hno
    go_enter Try.func23, Try.ntmps23
    go_wp2_with fail
    refine h0.out.mono ?_
    rintro e w1 ⟨rfl, rfl⟩
    go_wp2_with fail
    go_ret
    exact ⟨rfl, rfl⟩
theorem DE.fnames {w : World} {base d m : Nat} {P : PD} {E : List Ent} (h : DE w base d m P E) : sortN (E.map Ent.name) = P.L.map fname := by
  rw [sortN_eq h.up.le, ← h.pl, List.map_map]
  rfl
set_option maxRecDepth 100000 in
set_option maxHeartbeats 1000000 in
theorem list_any (base d : Nat) (P : PD) (F : Nat → Prop) (w : World) (h : DS w base d P F) :
    Calls Try.prog 11 #[.pointer (some ⟨d, 0, none⟩)] w fun e w' => ∃ A n c, e = .returned (.slice A n c) ∧ n = (listM P).length ∧ Cells w' A ((listM P).map str) ∧ (∀ a, A = some a → w.heap.size ≤ a.block ∧ a.block < w'.heap.size) ∧ n ≤ 1024 ∧ n ≤ c ∧ Ext w w' := by
  obtain ⟨m, E, hD, hF⟩ := h
  have h0 := none_any d m P.quota P.armed P.stopped w hD.row
  have c3 : w.cell? ⟨d, 3, none⟩ = some (.bool P.stopped) := Row.cell hD.row 3 rfl
  replace h0 := hide h0
  cases hb : P.stopped with
  | true =>
    have hm : listM P = [] := by unfold listM; rw [hb]; rfl
    rw [hm]
    rw [hb] at c3
    replace hb := hide hb
    clear hm
    go_enter Try.func11, Try.ntmps11
    go_wp2_with fail
    refine h0.out.mono ?_
    rintro e w1 ⟨rfl, rfl⟩
    go_wp2_with fail
    go_ret
    exact ⟨none, 0, 0, rfl, rfl, Cells.nil _ _, nofun, by omega, by omega, Ext.refl _⟩
  | false =>
    rw [hb] at c3
    have hm : listM P = sortN (E.map Ent.name) := by unfold listM; rw [hb, hD.fnames]; rfl
    rw [hm]
    have hnm := names_any base d m P.quota P.armed P.stopped E w hD.row hD.fs hD.cnt
    have hl : (sortN (E.map Ent.name)).length = E.length := by rw [(sortN_perm _).length_eq, List.length_map]
    have hcnt := hD.cnt
    replace hm := hide hm
    replace hb := hide hb
    replace hl := hide hl
    replace hnm := hide hnm
    go_enter Try.func11, Try.ntmps11
    go_wp2_with fail
    refine h0.out.mono ?_
    rintro e w1 ⟨rfl, rfl⟩
    go_wp2_with fail
    refine hnm.out.mono ?_
    rintro e w2 ⟨A, n, c, rfl, hn, hbuf, hE⟩
    replace hn := hide hn
    go_wp2_with fail
    go_ret
    exact ⟨A, n, c, rfl, by rw [hl.out]; exact hn.out, hbuf.cells, fun a ha => ⟨hbuf.base_le a ha, hbuf.lt a ha⟩, by rw [hn.out]; exact hcnt, hbuf.2.1, hE⟩
end Go.Proofs.Yticnncgbfpgeaaa
