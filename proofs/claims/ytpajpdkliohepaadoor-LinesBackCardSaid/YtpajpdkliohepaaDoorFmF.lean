/- strings.Cut at one byte; what stays of a line: until. -/
import Derived.Test.YtpajpdkliohepaaDoorFmE
import Derived.Test.YtpajpdkliohepaaDoorLnH
import Derived.Lib.IndexMore
namespace Go.Proofs.YtpajpdkliohepaaDoor
open Go.RowKit

theorem occ_one {s : List UInt8} {c : UInt8} {i : Nat} : Lib.occAt s [c] i = true ↔ s[i]? = some c := by
  unfold Lib.occAt
  rw [List.isPrefixOf_iff_prefix]
  constructor
  · rintro ⟨r, hr⟩
    have := List.getElem?_drop (xs := s) (i := i) (j := 0)
    rw [← hr] at this
    simpa using this.symm
  · intro h
    obtain ⟨hi, rfl⟩ := List.getElem?_eq_some_iff.1 h
    exact ⟨s.drop (i + 1), by rw [List.drop_eq_getElem_cons hi]; rfl⟩
/-- What Cut answers at one byte. -/
theorem cut_one (s : List UInt8) (c : UInt8) : (∃ a b, s = a ++ c :: b ∧ c ∉ a ∧ Lib.cut s [c] = (a, b, true)) ∨ (c ∉ s ∧ Lib.cut s [c] = (s, [], false)) := by
  rcases Lib.index_spec s [c] with ⟨h1, h2⟩ | ⟨i, h1, h2, h3, h4⟩
  · refine .inr ⟨fun hc => ?_, ?_⟩
    · obtain ⟨i, hi, rfl⟩ := List.mem_iff_getElem.1 hc
      have := h2 i (by omega)
      rw [occ_one.2 (List.getElem?_eq_getElem hi)] at this
      cases this
    · unfold Lib.cut
      rw [h1, if_neg (by omega)]
  · have h5 := occ_one.1 h3
    obtain ⟨hi, hc⟩ := List.getElem?_eq_some_iff.1 h5
    refine .inl ⟨s.take i, s.drop (i + 1), ?_, fun hm => ?_, ?_⟩
    · rw [← hc]
      rw [← List.drop_eq_getElem_cons hi]
      exact (List.take_append_drop i s).symm
    · obtain ⟨j, hj, hjc⟩ := List.mem_iff_getElem.1 hm
      rw [List.length_take] at hj
      rw [List.getElem_take] at hjc
      have := h4 j (by omega)
      rw [occ_one.2 (by rw [List.getElem?_eq_getElem (by omega), hjc])] at this
      cases this
    · unfold Lib.cut
      rw [h1, if_pos (by omega)]
      simp
/-- A variable of the library that the search asks for holds a number. -/
def MaxL (w : World) : Prop := ∃ m, w.cell? ⟨0, 0, none⟩ = some (.int .i64 m)
theorem MaxL.ext {w w1 : World} (h : MaxL w) (hE : Ext w w1) : MaxL w1 := by
  obtain ⟨m, hm⟩ := h
  exact ⟨m, hE.cell hm⟩
theorem MaxL.chg {S : Nat → Prop} {w w1 : World} (h : MaxL w) (hc : Chg S w w1) (hn : ¬ S 0) : MaxL w1 := by
  obtain ⟨m, hm⟩ := h
  exact ⟨m, hc.cell hm hn⟩
theorem scut_any (s p : List UInt8) (w : World) (hs : s.length ≤ 1000000) (hm : MaxL w) : Calls Tryd.prog 30 #[.string ⟨s.toArray⟩, .string ⟨p.toArray⟩] w fun e w' => e = .returned (.tuple #[.string ⟨(Lib.cut s p).1.toArray⟩, .string ⟨(Lib.cut s p).2.1.toArray⟩, .bool (Lib.cut s p).2.2]) ∧ Ext w w' := by
  obtain ⟨m, hm⟩ := hm
  refine (Tryd.strings_Cut ⟨s.toArray⟩ ⟨p.toArray⟩ m w (by rw [ByteArray.size_mk_toArray]; omega) hm).mono fun e w' ⟨he, n, hw⟩ => ⟨he, by rw [hw]; exact (Ext.refl w).drewN n⟩
set_option maxRecDepth 100000 in
theorem luntil_any (b : Nat) (s p : List UInt8) (w : World) (h : Rd w b s) (hs : s.length ≤ 1000000) (hm : MaxL w) :
    Calls Tryd.prog 49 #[.pointer (some ⟨b, 0, none⟩), .string ⟨p.toArray⟩] w fun e w' => e = .returned (.tuple #[.string ⟨(Lib.cut s p).1.toArray⟩, .bool (Lib.cut s p).2.2]) ∧ RdTo w b (if (Lib.cut s p).2.2 = true then (Lib.cut s p).2.1 else s) w' := by
  have c0 : w.cell? ⟨b, 0, none⟩ = some (.string ⟨s.toArray⟩) := Row.cell h 0 rfl
  have hc := hide (scut_any s p w hs hm)
  obtain ⟨P, hP⟩ : ∃ P, P = Lib.cut s p := ⟨_, rfl⟩
  rw [← hP] at hc ⊢
  obtain ⟨a, r, ok⟩ := P
  simp only at hc ⊢
  clear hP
  cases ok with
  | false =>
    rw [if_neg (by simp)]
    go_enter Tryd.func49, Tryd.ntmps49
    go_wp2_with fail
    refine hc.out.mono ?_
    rintro e w1 ⟨rfl, hE⟩
    go_wp2_with fail
    go_ret2
    exact ⟨rfl, Row.ext h hE, Chg.of_ext hE _⟩
  | true =>
    rw [if_pos rfl]
    go_enter Tryd.func49, Tryd.ntmps49
    go_wp2_with fail
    refine hc.out.mono ?_
    rintro e w1 ⟨rfl, hE⟩
    have h1 : Rd w1 b s := Row.ext h hE
    have fin := h1.set r
    have f0 := Row.free h1 0
    have k1 : w1.cell? ⟨b, 0, none⟩ = some (.string ⟨s.toArray⟩) := Row.cell h1 0 rfl
    replace fin := hide fin
    go_wp2_with fail
    go_ret2
    exact ⟨rfl, fin.out.1, (Chg.of_ext hE _).trans fin.out.2 fun _ _ h => h⟩
end Go.Proofs.YtpajpdkliohepaaDoor
