/- loggialaw31: LinesEvents, walked. -/
import Derived.Test.YtpajpdkliohepaaDoorLaA
namespace Go.Proofs.YtpajpdkliohepaaDoor
open Go.RowKit

/-- The event that a line tells of, and Parse's code. -/
def IsP (line : List UInt8) (e : Ev) (k : Int) : Prop := (k = 0 ∧ I64ok' e.at_ ∧ checkE e.fs = 0 ∧ fmtL e.at_ e.fs = line) ∨ (k = 310 ∧ e = ⟨0, []⟩ ∧ NoEv line)
theorem IsP.unique {line : List UInt8} {e f : Ev} {k j : Int} (h : IsP line e k) (h' : IsP line f j) : e = f ∧ k = j := by
  rcases h with ⟨rfl, ha, hc, hf⟩ | ⟨rfl, rfl, hno⟩ <;> rcases h' with ⟨rfl, ha', hc', hf'⟩ | ⟨rfl, rfl, hno'⟩
  · obtain ⟨h1, h2⟩ := fmtL_inj (hf.trans hf'.symm) (checkE_okN hc) (checkE_okN hc')
    obtain ⟨a, b⟩ := e
    obtain ⟨a', b'⟩ := f
    simp only at h1 h2
    rw [h1, h2]
    exact ⟨rfl, rfl⟩
  · exact absurd hf (hno' _ _ ha hc)
  · exact absurd hf' (hno _ _ ha' hc')
  · exact ⟨rfl, rfl⟩
theorem ParP.own {w w' : World} {line : List UInt8} {en : Ending} (h : ParP w line en w') : Ext w w' ∧ ∃ (e : Ev) (A : Option Addr) (c : Nat) (k : Int), en = .returned (.tuple #[e.val A c, .int .i64 k]) ∧ e.Own w' w.heap.size A c ∧ IsP line e k := by
  obtain ⟨hE, hc⟩ := h
  refine ⟨hE, ?_⟩
  rcases hc with ⟨e, A, c, rfl, hok, ha, hck, hf⟩ | ⟨rfl, hno⟩
  · exact ⟨e, A, c, 0, rfl, hok, .inl ⟨rfl, ha, hck, hf⟩⟩
  · exact ⟨⟨0, []⟩, none, 0, 310, rfl, Ev.Own.nil _ _ _, .inr ⟨rfl, rfl, hno⟩⟩
theorem ParP.is {w w' : World} {line : List UInt8} {en : Ending} (h : ParP w line en w') : Ext w w' ∧ ∃ (e : Ev) (A : Option Addr) (c : Nat) (k : Int), en = .returned (.tuple #[e.val A c, .int .i64 k]) ∧ e.Ok w' A ∧ IsP line e k := by
  obtain ⟨hE, e, A, c, k, he, hok, hi⟩ := h.own
  exact ⟨hE, e, A, c, k, he, hok.ok, hi⟩
theorem one_evs {w : World} {g : Nat} {T : TypeId} {e : Ev} {A : Option Addr} {c : Nat} (h : Row w g T #[.int .i64 e.at_, .slice A e.fs.length c]) (hok : e.Ok w A) : EvsOk w (some ⟨g, 0, none⟩) [⟨e, A, c⟩] := by
  refine ⟨.inr ⟨g, 0, rfl, fun i v hv => ?_⟩, fun x hx => by rw [List.mem_singleton.1 hx]; exact hok⟩
  rw [Nat.zero_add]
  exact h.cell i (by simpa [ecells, EvC.cells] using hv)
theorem one_of_map {l : List EvC} {e : Ev} (h : l.map (·.e) = [e]) : ∃ x, l = [x] ∧ x.e = e := by
  match l, h with
  | [x], h => exact ⟨x, rfl, by simpa using h⟩
set_option maxRecDepth 100000 in
set_option maxHeartbeats 4000000 in
theorem events_any (e : Ev) (A : Option Addr) (c : Nat) (line : List UInt8) (w : World) (hok : e.Ok w A) (hat : I64ok' e.at_) (hl : line.length ≤ 9223372036854775807) (hv : Vars w) :
    Calls Tryd.prog 3 #[e.val A c, .string ⟨line.toArray⟩] w fun en w' => en = .returned (.bool true) ∧ Ext w w' := by
  obtain ⟨W0, hW0⟩ : ∃ W0, W0 = (w.alloc (.cells #[.int .i64 e.at_, .slice A e.fs.length c] 24)).alloc (.cells #[.int .i64 e.at_, .slice A e.fs.length c] 24) := ⟨_, rfl⟩
  have hE0 : Ext w W0 := by rw [hW0]; exact ((Ext.refl w).alloc _).alloc _
  have hr0 : Row W0 (w.heap.size + 1) 24 #[.int .i64 e.at_, .slice A e.fs.length c] := by
    rw [hW0]
    have h := Row.new (w.alloc (.cells #[.int .i64 e.at_, .slice A e.fs.length c] 24)) 24 #[.int .i64 e.at_, .slice A e.fs.length c]
    simpa using h
  have hfew := hide (few_any [⟨e, A, c⟩] (some ⟨w.heap.size + 1, 0, none⟩) 1 W0 (one_evs hr0 (hok.ext hE0)) (by simp))
  have hcut := hide (fun W => cut_any line W hl)
  obtain ⟨ln, hln⟩ : ∃ ln, ln = line.take 3000 := ⟨_, rfl⟩
  have hlnl : ln.length ≤ 3000 := by rw [hln, List.length_take]; omega
  rw [← hln] at hcut
  unfold Ev.val
  obtain ⟨at_, fs⟩ := e
  simp only at hW0 hr0 hat ⊢
  replace hW0 := hide hW0
  replace hv := hide hv
  clear hln hr0 hok
  go_enter Tryd.func3, Tryd.ntmps3
  go_wp2_with fail
  rw [← hW0.out]
  refine hfew.out.mono ?_
  rintro en w1 ⟨A', l', c', rfl, hE1, hok1, hm1, _⟩
  obtain ⟨x, rfl, hxe⟩ := one_of_map (e := fewE ⟨at_, fs⟩) (by rw [hm1]; rfl)
  obtain ⟨g, o, hA', k0, k1⟩ := ecells_at hok1.cells (i := 0) (x := x) rfl
  have hxok := hok1.each x (by simp)
  obtain ⟨y, B, d⟩ := x
  simp only at hxe k0 k1 hxok
  have hya : I64ok' y.at_ := by rw [hxe]; exact hat
  subst hA'
  have hfm := fun W hE => format_any y B d W (hxok.ext hE) hya ((hv.out.ext ((hE0.trans hE1).trans hE)).tabs)
  have hrfm := fun W hE => rformat_any y B d W (hxok.ext hE) hya
  unfold Ev.val FmtP at hfm hrfm
  obtain ⟨F, hF⟩ : ∃ F, F = (if checkE y.fs = 0 then fmtL y.at_ y.fs else []) := ⟨_, rfl⟩
  obtain ⟨k, hk⟩ : ∃ k, k = checkE y.fs := ⟨_, rfl⟩
  rw [← hF, ← hk] at hfm hrfm
  rw [Nat.zero_mul, Nat.add_zero] at k0 k1
  have hE01 := hide (hE0.trans hE1)
  replace hfm := hide hfm
  replace hrfm := hide hrfm
  clear hF hk hm1 hok1 hxe
  go_wp2_with fail
  refine (hcut.out _).mono ?_
  rintro en w2 ⟨rfl, rfl⟩
  go_wp2_with fail
  refine (hfm.out _ (Ext.refl _)).mono ?_
  rintro en w3 ⟨rfl, hE3⟩
  have k0' := hE3.cell k0
  have k1' := hE3.cell k1
  go_wp2_with fail
  refine (hrfm.out _ hE3).mono ?_
  rintro en w4 ⟨rfl, hE4⟩
  have hpa := hide (vparse_any ln w4 (by omega) (hv.out.ext (hE01.out.trans (hE3.trans hE4))))
  clear k0 k1 k0' k1'
  go_wp2_with fail
  refine hpa.out.mono ?_
  rintro en w5 hP
  obtain ⟨hE5, e1, A1, c1, k1, rfl, hok1, hi1⟩ := hP.is
  unfold Ev.val
  obtain ⟨a1, fs1⟩ := e1
  simp only at hok1 ⊢
  obtain ⟨w6, hw6⟩ : ∃ w6, w6 = w5.alloc (.cells #[.int .i64 a1, .slice A1 fs1.length c1] 24) := ⟨_, rfl⟩
  have hE6 : Ext w5 w6 := by rw [hw6]; exact (Ext.refl w5).alloc _
  have hr6 : Row w6 w5.heap.size 24 #[.int .i64 a1, .slice A1 fs1.length c1] := by rw [hw6]; exact Row.new w5 _ _
  have hpb := hide (rparse_any ln w6 (by omega))
  have hE26 := hide (((hE3.trans hE4).trans hE5).trans hE6)
  replace hw6 := hide hw6
  replace hi1 := hide hi1
  clear hP
  go_wp2_with fail
  rw [← hw6.out]
  refine hpb.out.mono ?_
  rintro en w7 hP
  obtain ⟨hE7, e2, A2, c2, k2, rfl, hok2, hi2⟩ := hP.is
  obtain ⟨rfl, rfl⟩ := hi1.out.unique hi2
  unfold Ev.val
  simp only at hok2 ⊢
  obtain ⟨w8, hw8⟩ : ∃ w8, w8 = w7.alloc (.cells #[.int .i64 a1, .slice A2 fs1.length c2] 24) := ⟨_, rfl⟩
  have hE8 : Ext w7 w8 := by rw [hw8]; exact (Ext.refl w7).alloc _
  have hr8 : Row w8 w7.heap.size 24 #[.int .i64 a1, .slice A2 fs1.length c2] := by rw [hw8]; exact Row.new w7 _ _
  have hr6' := hr6.ext (hE7.trans hE8)
  have x0 : w8.cell? ⟨w5.heap.size, 0, none⟩ = some (.int .i64 a1) := hr6'.cell 0 rfl
  have x1 : w8.cell? ⟨w5.heap.size, 1, none⟩ = some (.slice A1 fs1.length c1) := hr6'.cell 1 rfl
  have x2 : w8.cell? ⟨w7.heap.size, 0, none⟩ = some (.int .i64 a1) := hr8.cell 0 rfl
  have x3 : w8.cell? ⟨w7.heap.size, 1, none⟩ = some (.slice A2 fs1.length c2) := hr8.cell 1 rfl
  have hsm : Calls Tryd.prog 13 #[Ev.val ⟨a1, fs1⟩ A1 c1, Ev.val ⟨a1, fs1⟩ A2 c2] w8 fun en w' => en = .returned (.bool true) ∧ Ext w8 w' :=
    (resame_any ⟨a1, fs1⟩ ⟨a1, fs1⟩ A1 A2 c1 c2 w8 (hok1.ext (hE6.trans (hE7.trans hE8))) (hok2.ext hE8)).mono fun en w' ⟨h1, h2⟩ => ⟨by rw [h1, show sameE ⟨a1, fs1⟩ ⟨a1, fs1⟩ = true from decide_eq_true ⟨rfl, rfl⟩], h2⟩
  have hEw8 := hide (hE01.out.trans (hE26.out.trans (hE7.trans hE8)))
  unfold Ev.val at hsm
  simp only at hsm
  replace hsm := hide hsm
  rw [hw8] at x0 x1 x2 x3
  replace hw8 := hide hw8
  clear hP hi2
  go_wp2_with fail
  rw [← hw8.out]
  refine hsm.out.mono ?_
  rintro en w9 ⟨rfl, hE9⟩
  have haw := hide (awake_any w9 (hv.out.ext (hEw8.out.trans hE9)))
  go_wp2_with fail
  refine haw.out.mono ?_
  rintro en w10 ⟨rfl, hE10⟩
  go_wp2_with fail
  go_ret
  exact ⟨rfl, hEw8.out.trans (hE9.trans hE10)⟩
end Go.Proofs.YtpajpdkliohepaaDoor
