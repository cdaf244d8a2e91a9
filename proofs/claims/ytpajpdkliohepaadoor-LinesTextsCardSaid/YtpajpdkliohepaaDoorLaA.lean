/- loggialaw31: awake. -/
import Derived.Test.YtpajpdkliohepaaDoorEvF
import Derived.Deep.RegionHeld3
namespace Go.Proofs.YtpajpdkliohepaaDoor
open Go.RowKit

def ev5 : Ev := ⟨5, [([109, 115, 103], [97, 34, 98])]⟩
def s5 : List UInt8 := [53, 32, 109, 115, 103, 61, 34, 97, 92, 34, 98, 34]
theorem itoa_five : Lib.itoa 5 = [53] := by
  unfold Lib.itoa
  rw [if_neg (by decide), show (5 : Int).toNat = 5 from rfl, Lib.decDigits_one (by omega)]
  rfl
theorem fmt5 : fmtL ev5.at_ ev5.fs = s5 := by
  rw [fmtL_eq, show ev5.at_ = 5 from rfl, itoa_five]
  decide
theorem check5 : checkE ev5.fs = 0 := by decide
theorem ev5_ok : I64ok' ev5.at_ := by unfold I64ok'; decide
theorem only5 {e : Ev} (hc : checkE e.fs = 0) (h : fmtL e.at_ e.fs = s5) : e = ev5 := by
  obtain ⟨h1, h2⟩ := fmtL_inj (h.trans fmt5.symm) (checkE_okN hc) (checkE_okN check5)
  obtain ⟨a, b⟩ := e
  simp only at h1 h2
  rw [h1, h2]
theorem none05 {e : Ev} (ha : I64ok' e.at_) (h : fmtL e.at_ e.fs = [48, 53]) : False := by
  rw [fmtL_eq] at h
  rcases flds_head e.fs with hf | ⟨t, hf⟩
  · rw [hf, List.append_nil] at h
    have h1 := atoi_itoa ha.1 ha.2
    rw [h] at h1
    have h2 : Lib.atoiAll [48, 53] = .ok 5 := by rfl
    rw [h2] at h1
    injection h1 with h1
    rw [← h1, itoa_five] at h
    exact absurd h (by decide)
  · rw [hf] at h
    have : (32 : UInt8) ∈ [(48 : UInt8), 53] := by rw [← h]; simp
    exact absurd this (by decide)
/-- What Parse wants of the library's variables. -/
structure Vars (w : World) : Prop where
  errs : Errs w
  tabs : Tabs w
  maxl : MaxL w
theorem Vars.ext {w w1 : World} (h : Vars w) (hE : Ext w w1) : Vars w1 := ⟨h.errs.ext hE, h.tabs.ext hE, h.maxl.ext hE⟩
theorem vparse_any (line : List UInt8) (w : World) (hl : line.length ≤ 1000000) (h : Vars w) : Calls Tryd.prog 11 #[.string ⟨line.toArray⟩] w fun en w' => ParP w line en w' :=
  parse_any line w hl h.errs h.tabs h.maxl (by obtain ⟨m, hm⟩ := h.maxl; exact World.block_lt_of_cell? w _ hm)
theorem fcells5 : fcells ev5.fs = [.string ⟨#[109, 115, 103]⟩, .string ⟨#[97, 34, 98]⟩] := rfl
theorem ev5_at {w : World} {g : Nat} {T : TypeId} (h : Row w g T #[.string ⟨#[109, 115, 103]⟩, .string ⟨#[97, 34, 98]⟩]) : ev5.Ok w (some ⟨g, 0, none⟩) := by
  refine ⟨.inr ⟨g, 0, rfl, fun i v hv => ?_⟩, by decide, by decide⟩
  rw [fcells5] at hv
  rw [Nat.zero_add]
  exact h.cell i (by simpa using hv)
theorem format5 {w : World} {g : Nat} {T : TypeId} (h : Row w g T #[.string ⟨#[109, 115, 103]⟩, .string ⟨#[97, 34, 98]⟩]) (ht : Tabs w) :
    Calls Tryd.prog 9 #[.agg #[.int .i64 5, .slice (some ⟨g, 0, none⟩) 1 1]] w fun en w' => en = .returned (.tuple #[.string ⟨#[53, 32, 109, 115, 103, 61, 34, 97, 92, 34, 98, 34]⟩, .int .i64 0]) ∧ Ext w w' := by
  refine (format_any ev5 (some ⟨g, 0, none⟩) 1 w (ev5_at h) ev5_ok ht).mono fun en w' ⟨h1, h2⟩ => ⟨?_, h2⟩
  rw [h1, check5, if_pos rfl, fmt5]
  rfl
theorem parse5 (w : World) (h : Vars w) : Calls Tryd.prog 11 #[.string ⟨#[53, 32, 109, 115, 103, 61, 34, 97, 92, 34, 98, 34]⟩] w fun en w' => ∃ A c, en = .returned (.tuple #[.agg #[.int .i64 5, .slice A 1 c], .int .i64 0]) ∧ ev5.Ok w' A ∧ Ext w w' := by
  refine (vparse_any s5 w (by decide) h).mono fun en w' ⟨hE, hc⟩ => ?_
  rcases hc with ⟨e, A, c, rfl, hok, ha, hck, hf⟩ | ⟨rfl, hno⟩
  · obtain rfl := only5 hck hf
    exact ⟨A, c, rfl, hok.ok, hE⟩
  · exact absurd fmt5 (hno _ _ ev5_ok check5)
theorem parse05 (w : World) (h : Vars w) : Calls Tryd.prog 11 #[.string ⟨#[48, 53]⟩] w fun en w' => en = .returned (.tuple #[.agg #[.int .i64 0, .slice none 0 0], .int .i64 310]) ∧ Ext w w' := by
  refine (vparse_any [48, 53] w (by decide) h).mono fun en w' ⟨hE, hc⟩ => ?_
  rcases hc with ⟨e, A, c, rfl, hok, ha, hck, hf⟩ | ⟨rfl, hno⟩
  · exact absurd (none05 ha hf) id
  · exact ⟨rfl, hE⟩
theorem same5 {w : World} {A B : Option Addr} (c d : Nat) (ha : ev5.Ok w A) (hb : ev5.Ok w B) : Calls Tryd.prog 13 #[.agg #[.int .i64 5, .slice A 1 c], .agg #[.int .i64 5, .slice B 1 d]] w fun en w' => en = .returned (.bool true) ∧ Ext w w' :=
  (resame_any ev5 ev5 A B c d w ha hb).mono fun en w' ⟨h1, h2⟩ => ⟨by rw [h1, show sameE ev5 ev5 = true by decide], h2⟩
set_option maxRecDepth 100000 in
set_option maxHeartbeats 4000000 in
theorem awake_any (w : World) (h : Vars w) : Calls Tryd.prog 14 #[] w fun e w' => e = .returned (.bool true) ∧ Ext w w' := by
  replace h := hide h
  go_enter Tryd.func14, Tryd.ntmps14
  go_wp2_with fail
  obtain ⟨W2, hW2⟩ : ∃ W2, W2 = ((w.alloc (.cells #[.string ⟨#[109, 115, 103]⟩, .string ⟨#[97, 34, 98]⟩] 52)).alloc (.cells #[.int .i64 5, .slice (some ⟨w.heap.size, 0, none⟩) 1 1] 24)) := ⟨_, rfl⟩
  have hrF : Row W2 w.heap.size 52 #[.string ⟨#[109, 115, 103]⟩, .string ⟨#[97, 34, 98]⟩] := by rw [hW2]; exact (Row.new w _ _).alloc _
  have hrE : Row W2 (w.heap.size + 1) 24 #[.int .i64 5, .slice (some ⟨w.heap.size, 0, none⟩) 1 1] := by
    rw [hW2]
    have h := Row.new (w.alloc (.cells #[.string ⟨#[109, 115, 103]⟩, .string ⟨#[97, 34, 98]⟩] 52)) 24 #[.int .i64 5, .slice (some ⟨w.heap.size, 0, none⟩) 1 1]
    simpa using h
  have hE2 : Ext w W2 := by rw [hW2]; exact ((Ext.refl w).alloc _).alloc _
  rw [← hW2]
  clear hW2
  refine (format5 hrF (h.out.ext hE2).tabs).mono ?_
  rintro en w3 ⟨rfl, hE3⟩
  have hp := hide (parse5 w3 ((h.out.ext hE2).ext hE3))
  go_wp2_with fail
  refine hp.out.mono ?_
  rintro en w4 ⟨A, c, rfl, hok4, hE4⟩
  obtain ⟨w5, hw5⟩ : ∃ w5, w5 = w4.alloc (.cells #[.int .i64 5, .slice A 1 c] 24) := ⟨_, rfl⟩
  have hr5 : Row w5 w4.heap.size 24 #[.int .i64 5, .slice A 1 c] := by rw [hw5]; exact Row.new w4 _ _
  have hE5 : Ext w4 w5 := by rw [hw5]; exact (Ext.refl w4).alloc _
  have hE25 := hE2.trans ((hE3.trans hE4).trans hE5)
  have hp2 := hide (parse05 w5 (h.out.ext hE25))
  replace hw5 := hide hw5
  go_wp2_with fail
  rw [← hw5.out]
  refine hp2.out.mono ?_
  rintro en w6 ⟨rfl, hE6⟩
  obtain ⟨w7, hw7⟩ : ∃ w7, w7 = w6.alloc (.cells #[.int .i64 0, .slice none 0 0] 24) := ⟨_, rfl⟩
  have hE7 : Ext w6 w7 := by rw [hw7]; exact (Ext.refl w6).alloc _
  have hE27 := ((hE3.trans hE4).trans hE5).trans (hE6.trans hE7)
  have hr1 := hrE.ext hE27
  have hr2 := hr5.ext (hE6.trans hE7)
  have x0 : w7.cell? ⟨w.heap.size + 1, 0, none⟩ = some (.int .i64 5) := hr1.cell 0 rfl
  have x1 : w7.cell? ⟨w.heap.size + 1, 1, none⟩ = some (.slice (some ⟨w.heap.size, 0, none⟩) 1 1) := hr1.cell 1 rfl
  have x2 : w7.cell? ⟨w4.heap.size, 0, none⟩ = some (.int .i64 5) := hr2.cell 0 rfl
  have x3 : w7.cell? ⟨w4.heap.size, 1, none⟩ = some (.slice A 1 c) := hr2.cell 1 rfl
  have hsm := hide (same5 1 c (ev5_at (hrF.ext hE27)) (hok4.ext (hE5.trans (hE6.trans hE7))))
  have hE07 := hide (hE2.trans hE27)
  rw [hw7] at x0 x1 x2 x3
  replace hw7 := hide hw7
  clear hw5
  go_wp2_with fail
  rw [← hw7.out]
  refine hsm.out.mono ?_
  rintro en w8 ⟨rfl, hE8⟩
  go_wp2_with fail
  go_ret
  exact ⟨rfl, hE07.out.trans hE8⟩
end Go.Proofs.YtpajpdkliohepaaDoor
