/- Slices of ops that came in. -/
import Derived.Test.YticnncgbfpgeaaaDlO
import Derived.Test.YticnncgbfpgeaaaCome
import Derived.Deep.Slices
import Derived.Deep.Fields
import Derived.ChangeSame
namespace Go.Proofs.Yticnncgbfpgeaaa
open Go.ChangeShapes Go.WideShapes Go.Deep Go.RowKit

theorem cell_lt {w : World} {a : Addr} {v : Value} (h : w.cell? a = some v) : a.block < w.heap.size ∧ a.spot = none := by
  unfold World.cell? at h
  split at h
  · rename_i c _ _ hb
    refine ⟨(Array.getElem?_eq_some_iff.1 hb).1, ?_⟩
    cases hs : a.spot with
    | none => rfl
    | some s => rw [hs] at h; simp at h
  · cases h
theorem list_of {α : Type} {Q : Nat → α → Prop} : ∀ (n : Nat), (∀ i, i < n → ∃ x, Q i x) → ∃ l : List α, l.length = n ∧ ∀ i x, l[i]? = some x → Q i x
  | 0, _ => ⟨[], rfl, fun i x h => by simp at h⟩
  | n + 1, h => by
    obtain ⟨l, hl, hq⟩ := list_of n fun i hi => h i (by omega)
    obtain ⟨x, hx⟩ := h n (by omega)
    refine ⟨l ++ [x], by simp [hl], fun i y hy => ?_⟩
    rw [List.getElem?_append] at hy
    split at hy
    · exact hq i y hy
    · rename_i hi
      have : i = n := by
        have := (List.getElem?_eq_some_iff.1 hy).1
        simp at this
        omega
      subst this
      rw [hl] at hy
      simp at hy
      rw [← hy]
      exact hx
section
variable {H : Type} {enc : TypeId × Value → H} {w : World} {base : Nat} {spare : Nat → Bool} {held : Bool}
set_option maxRecDepth 100000 in
theorem in_ints {t e : TypeId} {k : IntKind} {fuel : Nat} {v : Value} {x : DataW H × List MemPlace} (ht : Try.prog.underlying t = some (.slice e)) (he : Try.prog.underlying e = some (.int k)) (hc : Try.prog.cellsOf e = 1)
    (h : DataW.trod enc Try.prog w base spare held fuel t [v] = some x) :
    ∃ (A : Option Addr) (len cap : Nat) (zs : List Int), v = .slice A len cap ∧ len = zs.length ∧ Cells w A (zs.map (Value.int k)) ∧ (zs ≠ [] → ∀ a, A = some a → a.block < w.heap.size ∧ a.spot = none) ∧ len ≤ cap ∧ len ≤ 9223372036854775807 ∧ ∀ z ∈ zs, (Lit.int k z).wf = true := by
  rcases open_ints ht he hc h with ⟨hcs, _⟩ | ⟨y, m, c, zs, hcs, _, hl, hm, hz, _, hcell, hwz⟩
  · obtain rfl : v = .slice none 0 0 := by simpa using hcs
    exact ⟨none, 0, 0, [], rfl, rfl, .inl rfl, fun h => absurd rfl h, by omega, by omega, nofun⟩
  · obtain rfl : v = .slice (some y) m c := by simpa using hcs
    have hzl : m ≤ zs.length := by rw [hz]; split <;> omega
    have hml : m ≤ 9223372036854775807 := by unfold maxLen at hm; omega
    refine ⟨some y, m, c, zs.take m, rfl, by simp; omega, ?_, ?_, hl, hml, fun z hz => hwz z (List.mem_of_mem_take hz)⟩
    · rcases Nat.eq_zero_or_pos m with rfl | hm0
      · exact .inl rfl
      · have h0 := hcell 0 (by omega)
        have hs := (cell_lt h0).2
        obtain ⟨b, o, s⟩ := y
        obtain rfl : s = none := hs
        refine .inr ⟨b, o, rfl, fun i u hu => ?_⟩
        rw [List.getElem?_map, List.getElem?_take] at hu
        split at hu
        · rename_i hi
          have hi2 : i < zs.length := by omega
          rw [List.getElem?_eq_getElem hi2] at hu
          simp only [Option.map_some] at hu
          have h1 := hcell i hi2
          rw [Addr.add_lit] at h1
          rw [h1, ← hu]
          simp [List.getD, hi2]
        · simp at hu
    · intro hne a ha
      obtain rfl : y = a := by simpa using ha
      have hm0 : 0 < m := by
        rcases Nat.eq_zero_or_pos m with rfl | hm0
        · exact absurd rfl hne
        · exact hm0
      exact cell_lt (hcell 0 (by omega))
set_option maxRecDepth 100000 in
theorem in_op {fuel : Nat} {a : Addr} {i : Nat} {cs : List Value} {y : DataW H × List MemPlace} (hc : w.cells? base (a.add (i * 7)) 7 = some cs) (h : DataW.trod enc Try.prog w base spare held fuel 41 cs = some y) :
    ∃ o : Opr, OOk w w.heap.size o ∧ ∀ j v, o.cells[j]? = some v → w.cell? ((a.add (i * 7)).add j) = some v := by
  obtain ⟨_, hcl, hat⟩ := World.cells?_some hc
  obtain ⟨fs, hfs, hone⟩ : ∃ fs, Try.prog.underlying 41 = some (.struct fs) ∧ oneCellFields Try.prog fs = true ∧ fs.map Field.type = #[5, 9, 9, 27, 3, 3, 39] := ⟨_, Try.underlying41, by kernel_rfl, by kernel_rfl⟩
  obtain ⟨hone, hty⟩ := hone
  obtain ⟨ys, n, hn, hy, hlen, hyl, hf⟩ := DataW.trod_struct hfs h
  have one : ∀ (j : Nat) (t : TypeId) (v : Value), (#[5, 9, 9, 27, 3, 3, 39] : Array TypeId)[j]? = some t → cs[j]? = some v → ∃ z, DataW.trod enc Try.prog w base spare held n t [v] = some z := by
    intro j t v hj hv
    rw [← hty, Array.getElem?_map] at hj
    obtain ⟨f, hfj, rfl⟩ := Option.map_eq_some_iff.1 hj
    obtain ⟨ho, hk⟩ := hone_of hone j f hfj
    have h1 := hf j f hfj
    have hjl : j < cs.length := (List.getElem?_eq_some_iff.1 hv).1
    rw [ho, hk, List.drop_eq_getElem_cons hjl] at h1
    have hv2 : cs[j] = v := by rw [List.getElem?_eq_getElem hjl] at hv; simpa using hv
    rw [hv2] at h1
    have hjy : j < ys.length := by rw [hyl]; exact (Array.getElem?_eq_some_iff.1 hfj).1
    rw [List.getElem?_eq_getElem hjy] at h1
    exact ⟨_, h1⟩
  match cs, hcl with
  | [v0, v1, v2, v3, v4, v5, v6], _ =>
    obtain ⟨z0, h0⟩ := one 0 _ v0 rfl rfl
    obtain ⟨z1, h1⟩ := one 1 _ v1 rfl rfl
    obtain ⟨z2, h2⟩ := one 2 _ v2 rfl rfl
    obtain ⟨z3, h3⟩ := one 3 _ v3 rfl rfl
    obtain ⟨z4, h4⟩ := one 4 _ v4 rfl rfl
    obtain ⟨z5, h5⟩ := one 5 _ v5 rfl rfl
    obtain ⟨z6, h6⟩ := one 6 _ v6 rfl rfl
    obtain ⟨k0, e0, _, w0⟩ := DataW.trod_int Try.underlying5 h0
    obtain ⟨s1, e1, _, w1⟩ := DataW.trod_string Try.underlying9 h1
    obtain ⟨s2, e2, _, w2⟩ := DataW.trod_string Try.underlying9 h2
    obtain ⟨A3, n3, c3, b3, rfl, l3, C3, p3, q3, m3, w3⟩ := in_ints Try.underlying27 Try.underlying5 (by kernel_rfl) h3
    obtain ⟨k4, e4, _, w4⟩ := DataW.trod_int Try.underlying3 h4
    obtain ⟨k5, e5, _, w5⟩ := DataW.trod_int Try.underlying3 h5
    obtain ⟨A6, n6, c6, b6, rfl, l6, C6, p6, q6, m6, w6⟩ := in_ints Try.underlying39 Try.underlying3 (by kernel_rfl) h6
    obtain rfl : v0 = .int .u8 k0 := by simpa using e0
    obtain rfl : v1 = .string s1 := by simpa using e1
    obtain rfl : v2 = .string s2 := by simpa using e2
    obtain rfl : v4 = .int .i64 k4 := by simpa using e4
    obtain rfl : v5 = .int .i64 k5 := by simpa using e5
    subst l3 l6
    have u0 := wf_u8 w0
    have u4 := wf_i64 w4
    have u5 := wf_i64 w5
    have hstr : ∀ s : ByteArray, str s.data.toList = .string s := fun s => by unfold str; cases s; simp
    have hbs : ∀ z ∈ b3, Value.int .u8 z = B8 (UInt8.ofNat z.toNat) := by
      intro z hz
      have := wf_u8 (w3 z hz)
      unfold B8
      rw [UInt8.toNat_ofNat']
      congr 1
      omega
    have hbm : (b3.map fun z => UInt8.ofNat z.toNat).map B8 = b3.map (Value.int .u8) := by
      rw [List.map_map]
      exact List.map_congr_left fun z hz => (hbs z hz).symm
    refine ⟨⟨k0.toNat, s1.data.toList, s2.data.toList, b3.map fun z => UInt8.ofNat z.toNat, A3, c3, k4, k5, b6, A6, c6⟩, ⟨by show k0.toNat < 256; omega, ?_, ?_, ?_, fun hne => p3 fun e => hne (by show b3.map _ = []; rw [e]; rfl), by show (b3.map _).length ≤ c3; rw [List.length_map]; exact q3, by show (b3.map _).length ≤ _; rw [List.length_map]; exact m3, u4, u5, C6, p6, q6, m6, fun k hk => wf_i64 (w6 k hk)⟩, ?_⟩
    · show s1.data.toList.length ≤ _
      unfold maxLen at w1
      have : s1.size = s1.data.toList.length := by rw [Array.length_toList]; rfl
      omega
    · show s2.data.toList.length ≤ _
      unfold maxLen at w2
      have : s2.size = s2.data.toList.length := by rw [Array.length_toList]; rfl
      omega
    · show Bs w A3 _
      unfold Bs
      show Cells w A3 ((b3.map fun z => UInt8.ofNat z.toNat).map B8)
      rw [hbm]
      exact C3
    · intro j v hv
      have hk0 : ((k0.toNat : Nat) : Int) = k0 := by omega
      have hcs : Opr.cells ⟨k0.toNat, s1.data.toList, s2.data.toList, b3.map fun z => UInt8.ofNat z.toNat, A3, c3, k4, k5, b6, A6, c6⟩ = [.int .u8 k0, .string s1, .string s2, .slice A3 b3.length c3, .int .i64 k4, .int .i64 k5, .slice A6 b6.length c6] := by
        unfold Opr.cells
        simp only [hstr, hk0, List.length_map]
      rw [hcs] at hv
      have hj : j < 7 := (List.getElem?_eq_some_iff.1 hv).1
      rw [hat j hj]
      exact hv
set_option maxRecDepth 100000 in
theorem open_ops {r : Go.Reach} {base2 fuel : Nat} {A : Option Addr} {len cap : Nat} {x : DataW H × List MemPlace} (hv : Value.okWide Try.prog w r base2 32 (.slice A len cap))
    (h : DataW.trod enc Try.prog w base spare held fuel 32 (Value.slice A len cap).cells.toList = some x) : ∃ os, OS w w.heap.size A len cap os := by
  rcases open_slice Try.underlying32 h with ⟨hcs, _⟩ | ⟨a, m, c, k, n, D, Pl, hcs, hb, hl, hm, hk, hx, hi⟩
  · simp [Value.cells] at hcs
    obtain ⟨rfl, rfl, rfl⟩ := hcs
    exact ⟨[], rfl, .inl rfl, nofun, by omega, by omega, nofun⟩
  · simp [Value.cells] at hcs
    obtain ⟨rfl, rfl, rfl⟩ := hcs
    obtain ⟨hs, hlt⟩ := slice_has Try.underlying32 hv
    have hc7 : Try.prog.cellsOf 41 = 7 := by kernel_rfl
    rw [hc7] at hi
    have hlk : len ≤ k := by rw [hk]; split <;> omega
    obtain ⟨os, hosl, hos⟩ := list_of (Q := fun i (o : Opr) => OOk w w.heap.size o ∧ ∀ j v, o.cells[j]? = some v → w.cell? ((a.add (i * 7)).add j) = some v) len fun i hil => by
      obtain ⟨cs, hc, ht⟩ := hi i (by omega)
      exact in_op hc ht
    obtain ⟨b, o, s⟩ := a
    obtain rfl : s = none := hs
    refine ⟨os, hosl.symm, .inr ⟨b, o, rfl, fun i v hv => ?_⟩, fun a ha => by cases ha; exact hlt, hl, by unfold maxLen at hm; omega, fun o ho => ?_⟩
    · have hil : i < (ocells os).length := (List.getElem?_eq_some_iff.1 hv).1
      rw [ocells_len] at hil
      have hdiv : i / 7 < os.length := by omega
      have hg := ocells_get os (i / 7) os[i / 7] (i % 7) (List.getElem?_eq_getElem hdiv) (Nat.mod_lt _ (by omega))
      have hii : i / 7 * 7 + i % 7 = i := by omega
      rw [hii, hv] at hg
      have := (hos (i / 7) _ (List.getElem?_eq_getElem hdiv)).2 (i % 7) v hg.symm
      rw [Addr.add_lit, Addr.add_lit, Nat.add_assoc, hii] at this
      exact this
    · obtain ⟨i, hil, rfl⟩ := List.mem_iff_getElem.1 ho
      exact (hos i _ (List.getElem?_eq_getElem hil)).1
end
end Go.Proofs.Yticnncgbfpgeaaa
