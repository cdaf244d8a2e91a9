/- A Manifest that came in: opening. -/
import Derived.Test.YtijnomopcpgikaaDoorMfA
import Derived.Test.YtijnomopcpgikaaDoorIn
namespace Go.Proofs.YtijnomopcpgikaaDoor
open Go.ChangeShapes Go.WideShapes Go.Deep Go.RowKit

section
variable {H : Type} {enc : TypeId × Value → H} {w : World} {base : Nat} {spare : Nat → Bool} {held : Bool}
set_option maxRecDepth 100000 in
theorem in_part {fuel : Nat} {cs : List Value} {y : DataW H × List MemPlace} (hcl : cs.length = 7) (h : DataW.trod enc Tryd.prog w base spare held fuel 40 cs = some y) :
    ∃ p : Pt, p.Ok ∧ p.cells = cs := by
  obtain ⟨fs, hfs, hone⟩ : ∃ fs, Tryd.prog.underlying 40 = some (.struct fs) ∧ oneCellFields Tryd.prog fs = true ∧ fs.map Field.type = #[3, 38, 3, 3, 3, 3, 3] := ⟨_, Tryd.underlying40, by kernel_rfl, by kernel_rfl⟩
  obtain ⟨hone, hty⟩ := hone
  obtain ⟨ys, n, hn, hy, hlen, hyl, hf⟩ := DataW.trod_struct hfs h
  have one : ∀ (j : Nat) (t : TypeId) (v : Value), (#[3, 38, 3, 3, 3, 3, 3] : Array TypeId)[j]? = some t → cs[j]? = some v → ∃ z, DataW.trod enc Tryd.prog w base spare held n t [v] = some z := by
    intro j t v hj hv
    rw [← hty, Array.getElem?_map] at hj
    obtain ⟨f, hfj, rfl⟩ := Option.map_eq_some_iff.1 hj
    obtain ⟨ho, hk⟩ := hone_of hone j f hfj
    have h1 := hf j f hfj
    have hjl : j < cs.length := (List.getElem?_eq_some_iff.1 hv).1
    rw [ho, hk, List.drop_eq_getElem_cons hjl] at h1
    have hv2 : cs[j] = v := by rw [List.getElem?_eq_getElem hjl] at hv; simpa using hv
    rw [hv2] at h1
    have hjy : j < ys.length := by rw [hyl]; exact (Array.getElem?_eq_some_iff.1 hfj).1
    rw [List.getElem?_eq_getElem hjy] at h1
    exact ⟨_, h1⟩
  match cs, hcl with
  | [v0, v1, v2, v3, v4, v5, v6], _ =>
    obtain ⟨z0, h0⟩ := one 0 _ v0 rfl rfl
    obtain ⟨k0, e0, _, w0⟩ := DataW.trod_int Tryd.underlying3 h0
    obtain rfl : v0 = .int .i64 k0 := by simpa using e0
    obtain ⟨z1, h1⟩ := one 1 _ v1 rfl rfl
    obtain ⟨k1, e1, _, w1⟩ := DataW.trod_int Tryd.underlying38 h1
    obtain rfl : v1 = .int .i64 k1 := by simpa using e1
    obtain ⟨z2, h2⟩ := one 2 _ v2 rfl rfl
    obtain ⟨k2, e2, _, w2⟩ := DataW.trod_int Tryd.underlying3 h2
    obtain rfl : v2 = .int .i64 k2 := by simpa using e2
    obtain ⟨z3, h3⟩ := one 3 _ v3 rfl rfl
    obtain ⟨k3, e3, _, w3⟩ := DataW.trod_int Tryd.underlying3 h3
    obtain rfl : v3 = .int .i64 k3 := by simpa using e3
    obtain ⟨z4, h4⟩ := one 4 _ v4 rfl rfl
    obtain ⟨k4, e4, _, w4⟩ := DataW.trod_int Tryd.underlying3 h4
    obtain rfl : v4 = .int .i64 k4 := by simpa using e4
    obtain ⟨z5, h5⟩ := one 5 _ v5 rfl rfl
    obtain ⟨k5, e5, _, w5⟩ := DataW.trod_int Tryd.underlying3 h5
    obtain rfl : v5 = .int .i64 k5 := by simpa using e5
    obtain ⟨z6, h6⟩ := one 6 _ v6 rfl rfl
    obtain ⟨k6, e6, _, w6⟩ := DataW.trod_int Tryd.underlying3 h6
    obtain rfl : v6 = .int .i64 k6 := by simpa using e6
    exact ⟨⟨k0, k1, k2, k3, k4, k5, k6⟩, ⟨wf_i64 w0, wf_i64 w1, wf_i64 w2, wf_i64 w3, wf_i64 w4, wf_i64 w5, wf_i64 w6⟩, rfl⟩
set_option maxRecDepth 100000 in
theorem in_parts {fuel : Nat} {v : Value} {x : DataW H × List MemPlace} (h : DataW.trod enc Tryd.prog w base spare held fuel 22 [v] = some x) :
    ∃ A c ps, v = .slice A ps.length c ∧ PS w w.heap.size A ps.length c ps := by
  rcases open_slice Tryd.underlying22 h with ⟨hcs, _⟩ | ⟨a, m, c, k, n, D, Pl, hcs, hb, hl, hm, hk, hx, hi⟩
  · obtain rfl : v = .slice none 0 0 := by simpa using hcs
    exact ⟨none, 0, [], rfl, rfl, .inl rfl, fun h => absurd rfl h, Nat.le_refl _, by show 0 ≤ _; omega, nofun⟩
  · obtain rfl : v = .slice (some a) m c := by simpa using hcs
    have hc7 : Tryd.prog.cellsOf 40 = 7 := by kernel_rfl
    rw [hc7] at hi
    have hlk : m ≤ k := by rw [hk]; split <;> omega
    obtain ⟨ps, hpl, hps⟩ := list_of (Q := fun i (p : Pt) => p.Ok ∧ ∀ j v, p.cells[j]? = some v → w.cell? ((a.add (i * 7)).add j) = some v) m fun i hil => by
      obtain ⟨cs, hc, ht⟩ := hi i (by omega)
      obtain ⟨_, hcl, hat⟩ := World.cells?_some hc
      obtain ⟨p, hp, rfl⟩ := in_part hcl ht
      exact ⟨p, hp, fun j v hv => by rw [hat j (List.getElem?_eq_some_iff.1 hv).1]; exact hv⟩
    subst hpl
    have hat : ∀ i v, (pcells ps)[i]? = some v → w.cell? (a.add i) = some v := fun i v hv => by
      have hil : i < (pcells ps).length := (List.getElem?_eq_some_iff.1 hv).1
      rw [pcells_len] at hil
      have hdiv : i / 7 < ps.length := by omega
      have hg := pcells_get ps (i / 7) ps[i / 7] (i % 7) (List.getElem?_eq_getElem hdiv) (Nat.mod_lt _ (by omega))
      have hii : i / 7 * 7 + i % 7 = i := by omega
      rw [hii, hv] at hg
      have := (hps (i / 7) _ (List.getElem?_eq_getElem hdiv)).2 (i % 7) v hg.symm
      rw [Addr.add_add, hii] at this
      exact this
    have hlt : ps ≠ [] → a.block < w.heap.size ∧ a.spot = none := fun hne => by
      have h0 : 0 < (pcells ps).length := by
        rw [pcells_len]
        have := List.length_pos_iff.2 hne
        omega
      have := hat 0 _ (List.getElem?_eq_getElem h0)
      have := cell_lt this
      simpa [Addr.add] using this
    refine ⟨some a, c, ps, rfl, rfl, ?_, fun hne b hb => by cases hb; exact hlt hne, hl, by unfold maxLen at hm; omega, fun p hp => ?_⟩
    · by_cases hne : ps = []
      · rw [hne]; exact .inl rfl
      · obtain ⟨b, o, s⟩ := a
        obtain rfl : s = none := (hlt hne).2
        exact .inr ⟨b, o, rfl, fun i v hv => by have := hat i v hv; rw [Addr.add_lit] at this; exact this⟩
    · obtain ⟨i, hil, rfl⟩ := List.mem_iff_getElem.1 hp
      exact (hps i _ (List.getElem?_eq_getElem hil)).1
set_option maxRecDepth 100000 in
theorem in_mf {fuel : Nat} {cs : List Value} {y : DataW H × List MemPlace} (hcl : cs.length = 6) (h : DataW.trod enc Tryd.prog w base spare held fuel 24 cs = some y) :
    ∃ (m : Mf) (A : Option Addr) (c : Nat), m.Ok w w.heap.size A c ∧ Value.agg cs.toArray = m.val A c := by
  obtain ⟨fs, hfs, hone⟩ : ∃ fs, Tryd.prog.underlying 24 = some (.struct fs) ∧ oneCellFields Tryd.prog fs = true ∧ fs.map Field.type = #[22, 3, 3, 3, 3, 3] := ⟨_, Tryd.underlying24, by kernel_rfl, by kernel_rfl⟩
  obtain ⟨hone, hty⟩ := hone
  obtain ⟨ys, n, hn, hy, hlen, hyl, hf⟩ := DataW.trod_struct hfs h
  have one : ∀ (j : Nat) (t : TypeId) (v : Value), (#[22, 3, 3, 3, 3, 3] : Array TypeId)[j]? = some t → cs[j]? = some v → ∃ z, DataW.trod enc Tryd.prog w base spare held n t [v] = some z := by
    intro j t v hj hv
    rw [← hty, Array.getElem?_map] at hj
    obtain ⟨f, hfj, rfl⟩ := Option.map_eq_some_iff.1 hj
    obtain ⟨ho, hk⟩ := hone_of hone j f hfj
    have h1 := hf j f hfj
    have hjl : j < cs.length := (List.getElem?_eq_some_iff.1 hv).1
    rw [ho, hk, List.drop_eq_getElem_cons hjl] at h1
    have hv2 : cs[j] = v := by rw [List.getElem?_eq_getElem hjl] at hv; simpa using hv
    rw [hv2] at h1
    have hjy : j < ys.length := by rw [hyl]; exact (Array.getElem?_eq_some_iff.1 hfj).1
    rw [List.getElem?_eq_getElem hjy] at h1
    exact ⟨_, h1⟩
  match cs, hcl with
  | [v0, v1, v2, v3, v4, v5], _ =>
    obtain ⟨z0, h0⟩ := one 0 _ v0 rfl rfl
    obtain ⟨A, c, ps, rfl, hps⟩ := in_parts h0
    obtain ⟨z1, h1⟩ := one 1 _ v1 rfl rfl
    obtain ⟨k1, e1, _, w1⟩ := DataW.trod_int Tryd.underlying3 h1
    obtain rfl : v1 = .int .i64 k1 := by simpa using e1
    obtain ⟨z2, h2⟩ := one 2 _ v2 rfl rfl
    obtain ⟨k2, e2, _, w2⟩ := DataW.trod_int Tryd.underlying3 h2
    obtain rfl : v2 = .int .i64 k2 := by simpa using e2
    obtain ⟨z3, h3⟩ := one 3 _ v3 rfl rfl
    obtain ⟨k3, e3, _, w3⟩ := DataW.trod_int Tryd.underlying3 h3
    obtain rfl : v3 = .int .i64 k3 := by simpa using e3
    obtain ⟨z4, h4⟩ := one 4 _ v4 rfl rfl
    obtain ⟨k4, e4, _, w4⟩ := DataW.trod_int Tryd.underlying3 h4
    obtain rfl : v4 = .int .i64 k4 := by simpa using e4
    obtain ⟨z5, h5⟩ := one 5 _ v5 rfl rfl
    obtain ⟨k5, e5, _, w5⟩ := DataW.trod_int Tryd.underlying3 h5
    obtain rfl : v5 = .int .i64 k5 := by simpa using e5
    exact ⟨⟨ps, k1, k2, k3, k4, k5⟩, A, c, ⟨hps, wf_i64 w1, wf_i64 w2, wf_i64 w3, wf_i64 w4, wf_i64 w5⟩, rfl⟩
end
end Go.Proofs.YtijnomopcpgikaaDoor
