/- loggia/wal: made, none, Open, Number, size, Size. -/
import Derived.Test.YtohphanbnhiodaaGreatM02
import Derived.Test.YtohphanbnhiodaaGreatM03
import Derived.Test.YtohphanbnhiodaaGreatM01
import Derived.Test.YtohphanbnhiodaaGreatRows
import Derived.WalkKit
import Derived.ProofKit
import Derived.OpenShut
import Derived.ShutString
import Derived.ChangeOld
import Derived.Below
import Derived.Deep.Slices
import Derived.Deep.Fields
import Derived.ChangeSame
import Derived.SliceStrings
import Derived.Deep.QuietTactic
import Derived.BigQuiet
import Derived.Laws.DeepNot64
import Derived.Lib.AppendStr
import Derived.Laws.StructEq
import Derived.Deep.RegionHeld3
set_option linter.unusedSimpArgs false
set_option linter.unusedVariables false
namespace Go.Proofs.YtohphanbnhiodaaGreat
open Go.RowKit Go.Maps

/-- A writer at block b. -/
def WrR (w : World) (b d n : Nat) (nm : List UInt8) : Prop := Row w b 86 #[.pointer (some ⟨d, 0, none⟩), .string ⟨nm.toArray⟩, .int .i64 (n : Int)]
theorem WrR.ext {w w1 : World} {b d n : Nat} {nm : List UInt8} (h : WrR w b d n nm) (hE : Ext w w1) : WrR w1 b d n nm := Row.ext h hE
set_option maxRecDepth 100000 in
theorem made_any (base d : Nat) (P : PD) (F : Nat → Prop) (w : World) (h : DS w base d P F) :
    Calls Tryz.prog 35 #[.pointer (some ⟨d, 0, none⟩)] w fun e w' => e = .returned (.bool true) ∧ Ext w w' := by
  have hr := read_any base d P F [] 0 0 w h (by decide) (by omega) (by omega) (by omega) (by omega)
  unfold ReadPost at hr
  rw [show readM P [] 0 0 = ([], 60) from rfl] at hr
  unfold str at hr
  simp only at hr
  replace hr := hide hr
  go_enter Tryz.func35, Tryz.ntmps35
  go_wp2_with fail
  refine hr.out.mono ?_
  rintro e w1 ⟨A, k, c, rfl, _, _, hE⟩
  go_wp2_with fail
  go_ret
  exact ⟨rfl, hE⟩
set_option maxRecDepth 100000 in
theorem wnone_any (b d n : Nat) (nm : List UInt8) (w : World) (h : WrR w b d n nm) :
    Calls Tryz.prog 36 #[.pointer (some ⟨b, 0, none⟩)] w fun e w' => e = .returned (.bool false) ∧ w' = w := by
  have c0 := Row.cell h 0 rfl
  go_enter Tryz.func36, Tryz.ntmps36
  go_wp2_with fail
  go_ret
  exact ⟨rfl, rfl⟩
set_option maxRecDepth 100000 in
theorem wnumber_any (b d n : Nat) (nm : List UInt8) (w : World) (h : WrR w b d n nm) :
    Calls Tryz.prog 25 #[.pointer (some ⟨b, 0, none⟩)] w fun e w' => e = .returned (.int .i64 (n : Int)) ∧ w' = w := by
  have hn := hide (wnone_any b d n nm w h)
  have c2 := Row.cell h 2 rfl
  go_enter Tryz.func25, Tryz.ntmps25
  go_wp2_with fail
  refine hn.out.mono ?_
  rintro e w1 ⟨rfl, rfl⟩
  go_wp2_with fail
  go_ret
  exact ⟨rfl, rfl⟩
set_option maxRecDepth 100000 in
theorem fsize_any (base d : Nat) (P : PD) (F : Nat → Prop) (nm : List UInt8) (w : World) (h : DS w base d P F) (hs : nm.length ≤ 9223372036854775807) :
    Calls Tryz.prog 60 #[.agg #[.pointer (some ⟨d, 0, none⟩), .string ⟨nm.toArray⟩]] w fun e w' => e = .returned (.tuple #[.int .i64 (sizeM P nm).1, .bool (sizeM P nm).2]) ∧ Ext w w' := by
  obtain ⟨w1, hw1⟩ : ∃ w1, w1 = w.alloc (.cells #[.pointer (some ⟨d, 0, none⟩), .string ⟨nm.toArray⟩] 84) := ⟨_, rfl⟩
  have hE1 : Ext w w1 := by rw [hw1]; exact (Ext.refl w).alloc _
  have hr : Row w1 w.heap.size 84 #[.pointer (some ⟨d, 0, none⟩), .string ⟨nm.toArray⟩] := by rw [hw1]; exact Row.new w _ _
  have c0 := hr.cell 0 rfl
  have c1 := hr.cell 1 rfl
  have hsz := size_any base d P F nm w1 (h.ext hE1) hs
  unfold str at hsz
  obtain ⟨z, hz⟩ : ∃ z, z = sizeM P nm := ⟨_, rfl⟩
  rw [← hz] at hsz ⊢
  replace hz := hide hz
  rw [hw1] at c0 c1
  replace hsz := hide hsz
  replace hw1 := hide hw1
  go_enter Tryz.func60, Tryz.ntmps60
  go_wp2_with fail
  rw [← hw1.out]
  refine hsz.out.mono ?_
  rintro e w2 ⟨rfl, rfl⟩
  go_wp2_with fail
  go_ret2
  exact ⟨rfl, hE1⟩
set_option maxRecDepth 100000 in
theorem wsize_any (base b d n : Nat) (P : PD) (F : Nat → Prop) (nm : List UInt8) (w : World) (hw : WrR w b d n nm) (h : DS w base d P F) (hs : nm.length ≤ 9223372036854775807) :
    Calls Tryz.prog 26 #[.pointer (some ⟨b, 0, none⟩)] w fun e w' => e = .returned (.int .i64 (sizeM P nm).1) ∧ Ext w w' := by
  have hn := hide (wnone_any b d n nm w hw)
  have c0 := Row.cell hw 0 rfl
  have c1 := Row.cell hw 1 rfl
  have hsz := fsize_any base d P F nm w h hs
  obtain ⟨z, hz⟩ : ∃ z, z = sizeM P nm := ⟨_, rfl⟩
  rw [← hz] at hsz ⊢
  replace hz := hide hz
  replace hsz := hide hsz
  go_enter Tryz.func26, Tryz.ntmps26
  go_wp2_with fail
  refine hn.out.mono ?_
  rintro e w1 ⟨rfl, rfl⟩
  go_wp2_with fail
  refine hsz.out.mono ?_
  rintro e w2 ⟨rfl, hE⟩
  go_wp2_with fail
  go_ret
  exact ⟨rfl, hE⟩
set_option maxRecDepth 100000 in
theorem open_any (base d : Nat) (P : PD) (F : Nat → Prop) (n : Nat) (w : World) (h : DS w base d P F) (hn : n ≤ 99999999) :
    Calls Tryz.prog 7 #[.pointer (some ⟨d, 0, none⟩), .int .i64 (n : Int)] w fun e w' => ∃ b, e = .returned (.tuple #[.pointer (some ⟨b, 0, none⟩), .int .i64 0]) ∧ WrR w' b d n (nameW n) ∧ w.heap.size ≤ b ∧ Ext w w' := by
  have hm := hide (made_any base d P F w h)
  have hnm := fun w1 => name_yes n w1 hn
  obtain ⟨nm, hnn⟩ : ∃ nm, nm = nameW n := ⟨_, rfl⟩
  simp only [← hnn] at hnm ⊢
  replace hnn := hide hnn
  replace hnm := hide hnm
  go_enter Tryz.func7, Tryz.ntmps7
  go_wp2_with fail
  refine hm.out.mono ?_
  rintro e w1 ⟨rfl, hE1⟩
  go_wp2_with fail
  refine (hnm.out w1).mono ?_
  rintro e w2 ⟨rfl, hE2⟩
  go_wp2_with fail
  go_ret2
  exact ⟨w2.heap.size, rfl, Row.new w2 _ _, (hE1.trans hE2).size, (hE1.trans hE2).alloc _⟩
end Go.Proofs.YtohphanbnhiodaaGreat

/- Slices of bytes that came in. -/
namespace Go.Proofs.YtohphanbnhiodaaGreat
open Go.ChangeShapes Go.WideShapes Go.ChangeAt Go.RowKit
open Go.ChangeMaps (open_string shut_string)

theorem slice_has {P : Program} {w : World} {r : Go.Reach} {base : Nat} {t e : TypeId} {a : Addr} {len cap : Nat} (ht : P.underlying t = some (.slice e)) (h : Value.okWide P w r base t (.slice (some a) len cap)) : a.spot = none ∧ a.block < w.heap.size := by
  unfold Value.okWide at h
  rw [ht] at h
  unfold Cell.okWide at h
  rw [ht] at h
  unfold Cell.ok at h
  rw [ht] at h
  obtain ⟨_, _, _, hs, row, cells, hsh, _⟩ := h
  refine ⟨hs, ?_⟩
  unfold World.shape? at hsh
  split at hsh
  · rename_i hh
    exact (Array.getElem?_eq_some_iff.1 hh).1
  · cases hsh
theorem wf_i64 {a : Int} (h : (Lit.int .i64 a).wf = true) : -9223372036854775808 ≤ a ∧ a ≤ 9223372036854775807 := by
  simp [Lit.wf, IntKind.has, IntKind.min, IntKind.max, IntKind.bits, IntKind.signed] at h
  omega
theorem wf_u8 {a : Int} (h : (Lit.int .u8 a).wf = true) : 0 ≤ a ∧ a < 256 := by
  simp [Lit.wf, IntKind.has, IntKind.min, IntKind.max, IntKind.bits, IntKind.signed] at h
  omega
theorem wf_u16 {a : Int} (h : (Lit.int .u16 a).wf = true) : 0 ≤ a ∧ a < 65536 := by
  simp [Lit.wf, IntKind.has, IntKind.min, IntKind.max, IntKind.bits, IntKind.signed] at h
  omega
/-- What a slice of bytes that came in is told to be. -/
structure Came (w : World) (A : Option Addr) (n c : Nat) (l : List UInt8) : Prop where
  len : n = l.length
  bytes : Bs w A l
  lt : ∀ a, A = some a → a.block < w.heap.size
  cap : n ≤ c
  most : n ≤ 9223372036854775807
set_option maxRecDepth 100000 in
theorem open_bytes {H : Type} {enc : TypeId × Value → H} {w : World} {r : Go.Reach} {base base' : Nat} {t e : TypeId} {fuel : Nat} {a : Option Addr} {len cap : Nat} {x : DataW H × List MemPlace} {spare : Nat → Bool} {held : Bool}
    (ht : Tryz.prog.underlying t = some (.slice e)) (he : Tryz.prog.underlying e = some (.int .u8)) (hc : Tryz.prog.cellsOf e = 1) (hv : Value.okWide Tryz.prog w r base t (.slice a len cap))
    (h : DataW.trod enc Tryz.prog w base' spare held fuel t (Value.slice a len cap).cells.toList = some x) : ∃ l, Came w a len cap l := by
  rcases open_ints ht he hc h with ⟨hcs, _⟩ | ⟨y, m, c, zs, hcs, _, hl, hm, hz, _, hcell, hwz⟩
  · simp [Value.cells] at hcs
    obtain ⟨rfl, rfl, rfl⟩ := hcs
    exact ⟨[], rfl, .inl rfl, nofun, by omega, by omega⟩
  · simp [Value.cells] at hcs
    obtain ⟨rfl, rfl, rfl⟩ := hcs
    obtain ⟨hs, hlt⟩ := slice_has ht hv
    obtain ⟨b, o, s⟩ := y
    simp only at hs
    subst hs
    have hzl : len ≤ zs.length := by rw [hz]; split <;> omega
    refine ⟨(zs.take len).map (fun n => UInt8.ofNat n.toNat), ?_, .inr ⟨b, o, rfl, fun i v hv => ?_⟩, fun a h => (by cases h; exact hlt), hl, ?_⟩
    · simp
      omega
    · rw [List.getElem?_map, List.getElem?_map, List.getElem?_take] at hv
      split at hv
      · rename_i hi
        have hi2 : i < zs.length := by omega
        rw [List.getElem?_eq_getElem hi2] at hv
        simp only [Option.map_some] at hv
        have h1 := hcell i hi2
        have h2 := hwz zs[i] (List.getElem_mem hi2)
        rw [Addr.add_lit] at h1
        rw [h1]
        injection hv with hv
        rw [← hv]
        have h3 : zs.getD i 0 = zs[i] := by simp [List.getD, hi2]
        rw [h3]
        simp [Lit.wf, IntKind.has, IntKind.min, IntKind.max, IntKind.bits, IntKind.signed] at h2
        unfold B8
        rw [UInt8.toNat_ofNat']
        congr 2
        omega
      · simp at hv
    · unfold maxLen at hm
      omega
end Go.Proofs.YtohphanbnhiodaaGreat

/- What came in: a cell's place; rows of integers. -/
namespace Go.Proofs.YtohphanbnhiodaaGreat
open Go.ChangeShapes Go.WideShapes Go.Deep Go.RowKit

theorem cell_lt {w : World} {a : Addr} {v : Value} (h : w.cell? a = some v) : a.block < w.heap.size ∧ a.spot = none := by
  unfold World.cell? at h
  split at h
  · rename_i c _ _ hb
    refine ⟨(Array.getElem?_eq_some_iff.1 hb).1, ?_⟩
    cases hs : a.spot with
    | none => rfl
    | some s => rw [hs] at h; simp at h
  · cases h
theorem list_of {α : Type} {Q : Nat → α → Prop} : ∀ (n : Nat), (∀ i, i < n → ∃ x, Q i x) → ∃ l : List α, l.length = n ∧ ∀ i x, l[i]? = some x → Q i x
  | 0, _ => ⟨[], rfl, fun i x h => by simp at h⟩
  | n + 1, h => by
    obtain ⟨l, hl, hq⟩ := list_of n fun i hi => h i (by omega)
    obtain ⟨x, hx⟩ := h n (by omega)
    refine ⟨l ++ [x], by simp [hl], fun i y hy => ?_⟩
    rw [List.getElem?_append] at hy
    split at hy
    · exact hq i y hy
    · rename_i hi
      have : i = n := by
        have := (List.getElem?_eq_some_iff.1 hy).1
        simp at this
        omega
      subst this
      rw [hl] at hy
      simp at hy
      rw [← hy]
      exact hx
section
variable {H : Type} {enc : TypeId × Value → H} {w : World} {base : Nat} {spare : Nat → Bool} {held : Bool}
set_option maxRecDepth 100000 in
theorem in_ints {t e : TypeId} {k : IntKind} {fuel : Nat} {v : Value} {x : DataW H × List MemPlace} (ht : Tryz.prog.underlying t = some (.slice e)) (he : Tryz.prog.underlying e = some (.int k)) (hc : Tryz.prog.cellsOf e = 1)
    (h : DataW.trod enc Tryz.prog w base spare held fuel t [v] = some x) :
    ∃ (A : Option Addr) (len cap : Nat) (zs : List Int), v = .slice A len cap ∧ len = zs.length ∧ Cells w A (zs.map (Value.int k)) ∧ (zs ≠ [] → ∀ a, A = some a → a.block < w.heap.size ∧ a.spot = none) ∧ len ≤ cap ∧ len ≤ 9223372036854775807 ∧ ∀ z ∈ zs, (Lit.int k z).wf = true := by
  rcases open_ints ht he hc h with ⟨hcs, _⟩ | ⟨y, m, c, zs, hcs, _, hl, hm, hz, _, hcell, hwz⟩
  · obtain rfl : v = .slice none 0 0 := by simpa using hcs
    exact ⟨none, 0, 0, [], rfl, rfl, .inl rfl, fun h => absurd rfl h, by omega, by omega, nofun⟩
  · obtain rfl : v = .slice (some y) m c := by simpa using hcs
    have hzl : m ≤ zs.length := by rw [hz]; split <;> omega
    have hml : m ≤ 9223372036854775807 := by unfold maxLen at hm; omega
    refine ⟨some y, m, c, zs.take m, rfl, by simp; omega, ?_, ?_, hl, hml, fun z hz => hwz z (List.mem_of_mem_take hz)⟩
    · rcases Nat.eq_zero_or_pos m with rfl | hm0
      · exact .inl rfl
      · have h0 := hcell 0 (by omega)
        have hs := (cell_lt h0).2
        obtain ⟨b, o, s⟩ := y
        obtain rfl : s = none := hs
        refine .inr ⟨b, o, rfl, fun i u hu => ?_⟩
        rw [List.getElem?_map, List.getElem?_take] at hu
        split at hu
        · rename_i hi
          have hi2 : i < zs.length := by omega
          rw [List.getElem?_eq_getElem hi2] at hu
          simp only [Option.map_some] at hu
          have h1 := hcell i hi2
          rw [Addr.add_lit] at h1
          rw [h1, ← hu]
          simp [List.getD, hi2]
        · simp at hu
    · intro hne a ha
      obtain rfl : y = a := by simpa using ha
      have hm0 : 0 < m := by
        rcases Nat.eq_zero_or_pos m with rfl | hm0
        · exact absurd rfl hne
        · exact hm0
      exact cell_lt (hcell 0 (by omega))
end
end Go.Proofs.YtohphanbnhiodaaGreat

/- What came in: rows of strings. -/
namespace Go.Proofs.YtohphanbnhiodaaGreat
open Go.ChangeShapes Go.WideShapes Go.Deep Go.RowKit

def strV (l : List UInt8) : Value := .string ⟨l.toArray⟩
theorem strV_bytes (s : ByteArray) : strV s.data.toList = .string s := by
  cases s
  simp [strV]
section
variable {H : Type} {enc : TypeId × Value → H} {w : World} {base : Nat} {spare : Nat → Bool} {held : Bool}
set_option maxRecDepth 100000 in
theorem in_strings {t e : TypeId} {fuel : Nat} {v : Value} {x : DataW H × List MemPlace} (ht : Tryz.prog.underlying t = some (.slice e)) (he : Tryz.prog.underlying e = some .string) (hc : Tryz.prog.cellsOf e = 1)
    (h : DataW.trod enc Tryz.prog w base spare held fuel t [v] = some x) :
    ∃ (A : Option Addr) (cap : Nat) (ss : List (List UInt8)), v = .slice A ss.length cap ∧ Cells w A (ss.map strV) ∧ (ss ≠ [] → ∀ a, A = some a → a.block < w.heap.size ∧ a.spot = none) ∧ ss.length ≤ cap ∧ ss.length ≤ 9223372036854775807 ∧ ∀ s ∈ ss, s.length ≤ 9223372036854775807 := by
  rcases open_strings ht he hc h with ⟨hcs, _⟩ | ⟨y, m, c, zs, hcs, _, hl, hm, hz, _, hcell, hwz⟩
  · obtain rfl : v = .slice none 0 0 := by simpa using hcs
    exact ⟨none, 0, [], rfl, .inl rfl, fun h => absurd rfl h, by simp, by simp, nofun⟩
  · obtain rfl : v = .slice (some y) m c := by simpa using hcs
    have hzl : m ≤ zs.length := by rw [hz]; split <;> omega
    have hml : m ≤ 9223372036854775807 := by unfold maxLen at hm; omega
    have hlen : ((zs.take m).map fun s => s.data.toList).length = m := by simp; omega
    refine ⟨some y, c, (zs.take m).map fun s => s.data.toList, by rw [hlen], ?_, ?_, by rw [hlen]; exact hl, by rw [hlen]; exact hml, fun s hs => ?_⟩
    · rcases Nat.eq_zero_or_pos m with rfl | hm0
      · exact .inl rfl
      · have h0 := hcell 0 (by omega)
        have hs := (cell_lt h0).2
        obtain ⟨b, o, s⟩ := y
        obtain rfl : s = none := hs
        refine .inr ⟨b, o, rfl, fun i u hu => ?_⟩
        rw [List.getElem?_map, List.getElem?_map, List.getElem?_take] at hu
        split at hu
        · rename_i hi
          have hi2 : i < zs.length := by omega
          rw [List.getElem?_eq_getElem hi2] at hu
          simp only [Option.map_some] at hu
          have h1 := hcell i hi2
          rw [Addr.add_lit] at h1
          rw [h1, ← hu, strV_bytes]
          simp [List.getD, hi2]
        · simp at hu
    · intro hne a ha
      obtain rfl : y = a := by simpa using ha
      have hm0 : 0 < m := by
        rcases Nat.eq_zero_or_pos m with rfl | hm0
        · exact absurd rfl hne
        · exact hm0
      exact cell_lt (hcell 0 (by omega))
    · obtain ⟨z, hz1, rfl⟩ := List.mem_map.1 hs
      have := hwz z (List.mem_of_mem_take hz1)
      unfold maxLen at this
      rw [Array.length_toList]
      exact this
end
end Go.Proofs.YtohphanbnhiodaaGreat

/- Events, plainly; a row of fields. -/
namespace Go.Proofs.YtohphanbnhiodaaGreat
open Go.RowKit

/-- A field: name, text. -/
abbrev Fd := List UInt8 × List UInt8
def Fd.cells (f : Fd) : List Value := [strV f.1, strV f.2]
def fcells (fs : List Fd) : List Value := fs.flatMap Fd.cells
theorem fcells_len : ∀ fs : List Fd, (fcells fs).length = fs.length * 2
  | [] => rfl
  | f :: fs => by
    have := fcells_len fs
    unfold fcells at this ⊢
    rw [List.flatMap_cons, List.length_append, this, List.length_cons]
    simp [Fd.cells]
    omega
theorem fcells_get : ∀ (fs : List Fd) (i : Nat) (f : Fd) (k : Nat), fs[i]? = some f → k < 2 → (fcells fs)[i * 2 + k]? = f.cells[k]?
  | [], i, f, k, h, _ => by simp at h
  | x :: fs, 0, f, k, h, hk => by
    obtain rfl : x = f := by simpa using h
    unfold fcells
    rw [List.flatMap_cons, List.getElem?_append_left (by simp [Fd.cells]; omega), Nat.zero_mul, Nat.zero_add]
  | x :: fs, i + 1, f, k, h, hk => by
    have h' : fs[i]? = some f := by simpa using h
    have ih := fcells_get fs i f k h' hk
    unfold fcells at ih ⊢
    rw [List.flatMap_cons, List.getElem?_append_right (by simp [Fd.cells]; omega)]
    have : (i + 1) * 2 + k - (Fd.cells x).length = i * 2 + k := by
      have : (Fd.cells x).length = 2 := rfl
      omega
    rw [this]
    exact ih
theorem fcells_snoc (fs : List Fd) (f : Fd) : fcells (fs ++ [f]) = fcells fs ++ f.cells := by
  unfold fcells
  rw [List.flatMap_append]
  simp
theorem fcells_take (k : Nat) : ∀ fs : List Fd, fcells (fs.take k) = (fcells fs).take (k * 2) := by
  induction k with
  | zero => intro fs; rw [List.take_zero, Nat.zero_mul, List.take_zero]; rfl
  | succ k ih =>
    intro fs
    cases fs with
    | nil => rw [List.take_nil]; unfold fcells; rw [List.flatMap_nil, List.take_nil]
    | cons f fs =>
      have h1 : (k + 1) * 2 = (Fd.cells f).length + k * 2 := by
        have : (Fd.cells f).length = 2 := rfl
        omega
      show fcells (f :: fs.take k) = _
      unfold fcells
      rw [List.flatMap_cons, List.flatMap_cons, h1, List.take_length_add_append]
      have := ih fs
      unfold fcells at this
      rw [this]
/-- Where a field's cells lie. -/
theorem fcells_at {w : World} {A : Option Addr} {fs : List Fd} (h : Cells w A (fcells fs)) {i : Nat} {f : Fd} (hf : fs[i]? = some f) : ∃ g o, A = some ⟨g, o, none⟩ ∧ w.cell? ⟨g, o + i * 2, none⟩ = some (strV f.1) ∧ w.cell? ⟨g, o + i * 2 + 1, none⟩ = some (strV f.2) := by
  have hi := (List.getElem?_eq_some_iff.1 hf).1
  obtain ⟨g, o, hA, hc⟩ := h.at_ (by rw [fcells_len]; omega)
  refine ⟨g, o, hA, ?_, ?_⟩
  · exact hc (i * 2 + 0) _ (by rw [fcells_get fs i f 0 hf (by omega)]; rfl)
  · rw [Nat.add_assoc]
    exact hc (i * 2 + 1) _ (by rw [fcells_get fs i f 1 hf (by omega)]; rfl)
/-- An event: time, fields. -/
structure Ev where
  at_ : Int
  fs : List Fd
def Ev.val (e : Ev) (A : Option Addr) (c : Nat) : Value := .agg #[.int .i64 e.at_, .slice A e.fs.length c]
/-- May a byte be in a name? -/
def nameC (c : UInt8) : Bool := decide (c.toNat = 95 ∨ (48 ≤ c.toNat ∧ c.toNat ≤ 57) ∨ (97 ≤ c.toNat ∧ c.toNat ≤ 122))
def nameL (s : List UInt8) : Bool := s.all nameC && decide (1 ≤ s.length ∧ s.length ≤ 32)
/-- What is told of fields, one behind the other. -/
def checkF : List Fd → Nat
  | [] => 0
  | f :: fs => if nameL f.1 = false then 100 else if 4096 < f.2.length then 2 else checkF fs
def checkE (fs : List Fd) : Nat := if 16 < fs.length then 3 else checkF fs
theorem checkF_drop {fs : List Fd} {i : Nat} {f : Fd} (h : fs[i]? = some f) : checkF (fs.drop i) = if nameL f.1 = false then 100 else if 4096 < f.2.length then 2 else checkF (fs.drop (i + 1)) := by
  obtain ⟨hi, rfl⟩ := List.getElem?_eq_some_iff.1 h
  rw [List.drop_eq_getElem_cons hi]
  rfl
end Go.Proofs.YtohphanbnhiodaaGreat

/- Names: token.IsName, event.Name, loggiaref07.IsName. -/
namespace Go.Proofs.YtohphanbnhiodaaGreat
open Go.RowKit

theorem nameL_bad {s : List UInt8} {i : Nat} {x : UInt8} (h : s[i]? = some x) (hx : nameC x = false) : nameL s = false := by
  unfold nameL
  have : s.all nameC = false := by
    rw [List.all_eq_false]
    exact ⟨x, List.mem_of_getElem? h, by rw [hx]; simp⟩
  rw [this]
  rfl
theorem nameC_no {x : UInt8} (h : ¬ (x.toNat = 95 ∨ (48 ≤ x.toNat ∧ x.toNat ≤ 57) ∨ (97 ≤ x.toNat ∧ x.toNat ≤ 122))) : nameC x = false := decide_eq_false h
theorem nameC_yes {x : UInt8} (h : x.toNat = 95 ∨ (48 ≤ x.toNat ∧ x.toNat ≤ 57) ∨ (97 ≤ x.toNat ∧ x.toNat ≤ 122)) : nameC x = true := decide_eq_true h
theorem all_snoc {s : List UInt8} {i : Nat} {x : UInt8} (h : s[i]? = some x) (ha : (s.take i).all nameC = true) (hx : nameC x = true) : (s.take (i + 1)).all nameC = true := by
  obtain ⟨hi, rfl⟩ := List.getElem?_eq_some_iff.1 h
  rw [List.take_succ_eq_append_getElem hi, List.all_append, ha]
  simp [hx]
set_option maxRecDepth 100000 in
set_option maxHeartbeats 2000000 in
theorem isname_any (s : List UInt8) (w : World) (hs : s.length ≤ 9223372036854775807) : Calls Tryz.prog 136 #[.string ⟨s.toArray⟩] w fun e w' => e = .returned (.bool (nameL s)) ∧ Ext w w' := by
  obtain ⟨c1, W1, hcv, hB, hE1, hsz⟩ := run_bytes s w
  obtain ⟨z, hz⟩ : ∃ z, z = nameL s := ⟨_, rfl⟩
  rw [← hz]
  have hbad : ∀ i x, s[i]? = some x → nameC x = false → z = false := fun i x h hx => hz.trans (nameL_bad h hx)
  have hend : s.all nameC = true → z = (decide (1 ≤ s.length) && decide (s.length ≤ 32)) := fun h => by rw [hz]; unfold nameL; rw [h]; simp [Bool.decide_and]
  replace hend := hide hend
  replace hbad := hide hbad
  replace hE1 := hide hE1
  clear hz hsz
  go_enter Tryz.func136, Tryz.ntmps136
  go_wp2_with fail
  go_loopw [8] (fun s8 wr => ∃ i : Nat, s8 = .int .i64 i ∧ i ≤ s.length ∧ Hid ((s.take i).all nameC = true) ∧ wr = W1) (fun s8 _ => s.length - (intOf s8).toNat)
  case atStart => exact ⟨0, rfl, by omega, hide rfl, rfl⟩
  case round =>
    obtain ⟨i, rfl, hi, hall, rfl⟩ := hrel
    by_cases hin : i < s.length
    · obtain ⟨g, o, hg, hc⟩ := hB.at_ (by omega)
      injection hg with hg
      injection hg with hg ho
      subst hg
      subst ho
      have k0 := hc i hin
      rw [Nat.zero_add] at k0
      obtain ⟨x, hx⟩ : ∃ x, x = s[i] := ⟨_, rfl⟩
      have hsx : s[i]? = some x := by rw [hx]; exact List.getElem?_eq_getElem hin
      rw [← hx] at k0
      have hb1 : ¬ (x.toNat = 95 ∨ (48 ≤ x.toNat ∧ x.toNat ≤ 57) ∨ (97 ≤ x.toNat ∧ x.toNat ≤ 122)) → z = false := fun h => hbad.out i x hsx (nameC_no h)
      have hg1 : (x.toNat = 95 ∨ (48 ≤ x.toNat ∧ x.toNat ≤ 57) ∨ (97 ≤ x.toNat ∧ x.toNat ≤ 122)) → (s.take (i + 1)).all nameC = true := fun h => all_snoc hsx hall.out (nameC_yes h)
      replace hb1 := hide hb1
      replace hg1 := hide hg1
      clear hc hx hsx
      go_wp2_with fail
      all_goals first
        | (have q := hg1.out (by first | omega | (simp_all; done) | (simp_all; omega))
           replace q := hide q
           go_roundw
           case rel => exact ⟨i + 1, by go_num, by omega, q, trivial⟩
           case measure => simp [intOf]; omega)
        | (have q := hb1.out (by first | omega | (simp_all; done) | (simp_all; omega))
           go_ret
           exact ⟨ret_bool (by rw [q]), hE1.out⟩)
    · have hz := hend.out (by have h := hall.out; rw [List.take_of_length_le (by omega)] at h; exact h)
      replace hz := hide hz
      go_wp2_with fail
      all_goals go_ret
      all_goals refine ⟨ret_bool ?_, hE1.out⟩
      all_goals rw [hz.out]
      all_goals
        rw [Bool.eq_iff_iff]
        simp
        omega
theorem name_any (s : List UInt8) (w : World) (hs : s.length ≤ 9223372036854775807) : Calls Tryz.prog 115 #[.string ⟨s.toArray⟩] w fun e w' => e = .returned (.bool (nameL s)) ∧ Ext w w' := by
  have h := hide (isname_any s w hs)
  go_enter Tryz.func115, Tryz.ntmps115
  go_wp2_with fail
  refine h.out.mono ?_
  rintro e w1 ⟨rfl, hE⟩
  go_wp2_with fail
  go_ret
  exact ⟨rfl, hE⟩
set_option maxRecDepth 100000 in
set_option maxHeartbeats 2000000 in
theorem risname_any (s : List UInt8) (w : World) (hs : s.length ≤ 9223372036854775807) : Calls Tryz.prog 117 #[.string ⟨s.toArray⟩] w fun e w' => e = .returned (.bool (nameL s)) ∧ w' = w := by
  obtain ⟨z, hz⟩ : ∃ z, z = nameL s := ⟨_, rfl⟩
  rw [← hz]
  have hbad : ∀ i x, s[i]? = some x → nameC x = false → z = false := fun i x h hx => hz.trans (nameL_bad h hx)
  have hend : s.all nameC = true → z = (decide (1 ≤ s.length) && decide (s.length ≤ 32)) := fun h => by rw [hz]; unfold nameL; rw [h]; simp [Bool.decide_and]
  have hlen : ¬ (1 ≤ s.length ∧ s.length ≤ 32) → z = false := fun h => by rw [hz]; unfold nameL; rw [decide_eq_false h]; simp
  replace hend := hide hend
  replace hbad := hide hbad
  replace hlen := hide hlen
  clear hz
  by_cases hl : 1 ≤ s.length ∧ s.length ≤ 32
  · obtain ⟨hl1, hl2⟩ := hl
    go_enter Tryz.func117, Tryz.ntmps117
    go_wp2_with fail
    go_loopw [3] (fun s3 wr => ∃ i : Nat, s3 = .int .i64 i ∧ i ≤ s.length ∧ Hid ((s.take i).all nameC = true) ∧ wr = w) (fun s3 _ => s.length - (intOf s3).toNat)
    case atStart => exact ⟨0, rfl, by omega, hide rfl, rfl⟩
    case round =>
      obtain ⟨i, rfl, hi, hall, rfl⟩ := hrel
      by_cases hin : i < s.length
      · obtain ⟨x, hx⟩ : ∃ x, x = s[i] := ⟨_, rfl⟩
        have hsx : s[i]? = some x := by rw [hx]; exact List.getElem?_eq_getElem hin
        have hrun := fun W => run_strindex hsx (z := (i : Int)) rfl W
        have hb1 : ¬ (x.toNat = 95 ∨ (48 ≤ x.toNat ∧ x.toNat ≤ 57) ∨ (97 ≤ x.toNat ∧ x.toNat ≤ 122)) → z = false := fun h => hbad.out i x hsx (nameC_no h)
        have hg1 : (x.toNat = 95 ∨ (48 ≤ x.toNat ∧ x.toNat ≤ 57) ∨ (97 ≤ x.toNat ∧ x.toNat ≤ 122)) → (s.take (i + 1)).all nameC = true := fun h => all_snoc hsx hall.out (nameC_yes h)
        replace hb1 := hide hb1
        replace hg1 := hide hg1
        clear hx hsx
        go_wp2_with fail
        all_goals first
          | (have q := hg1.out (by first | omega | (simp_all; done) | (simp_all; omega))
             replace q := hide q
             go_roundw
             case rel => exact ⟨i + 1, by go_num, by omega, q, trivial⟩
             case measure => simp [intOf]; omega)
          | (have q := hb1.out (by first | omega | (simp_all; done) | (simp_all; omega))
             go_ret
             exact ⟨ret_bool (by rw [q]), rfl⟩)
      · have hz := hend.out (by have h := hall.out; rw [List.take_of_length_le (by omega)] at h; exact h)
        rw [decide_eq_true hl1, decide_eq_true hl2] at hz
        subst hz
        go_wp2_with fail
        go_ret
        exact ⟨rfl, rfl⟩
  · obtain rfl := hlen.out hl
    go_enter Tryz.func117, Tryz.ntmps117
    go_wp2_with fail
    all_goals first
      | (go_ret; exact ⟨rfl, rfl⟩)
      | (exfalso; simp_all; omega)
end Go.Proofs.YtohphanbnhiodaaGreat

/- Events: event.Check. -/
namespace Go.Proofs.YtohphanbnhiodaaGreat
open Go.RowKit

/-- An event that may be looked at. -/
structure Ev.Ok (e : Ev) (w : World) (A : Option Addr) : Prop where
  cells : Cells w A (fcells e.fs)
  many : e.fs.length ≤ 9223372036854775807
  long : ∀ f ∈ e.fs, f.1.length ≤ 9223372036854775807 ∧ f.2.length ≤ 9223372036854775807
theorem Ev.Ok.ext {e : Ev} {w w1 : World} {A : Option Addr} (h : e.Ok w A) (hE : Ext w w1) : e.Ok w1 A := ⟨h.cells.ext hE, h.many, h.long⟩
set_option maxRecDepth 100000 in
set_option maxHeartbeats 2000000 in
theorem echeck_any (e : Ev) (A : Option Addr) (c : Nat) (w : World) (h : e.Ok w A) : Calls Tryz.prog 95 #[e.val A c] w fun en w' => en = .returned (.int .i64 (checkE e.fs : Int)) ∧ Ext w w' := by
  obtain ⟨at_, fs⟩ := e
  obtain ⟨hc, hm, hl⟩ := h
  unfold Ev.val
  simp only at hc hm hl ⊢
  obtain ⟨n, hn⟩ : ∃ n, n = fs.length := ⟨_, rfl⟩
  obtain ⟨z, hz⟩ : ∃ z, z = checkE fs := ⟨_, rfl⟩
  have hmany : 16 < n → z = 3 := fun h => by rw [hz]; unfold checkE; rw [if_pos (by omega)]
  have hgo : n ≤ 16 → z = checkF (fs.drop 0) := fun h => by rw [hz]; unfold checkE; rw [if_neg (by omega)]; rfl
  have hnm := fun s W (hs : s.length ≤ 9223372036854775807) => name_any s W hs
  rw [← hz, ← hn]
  rw [← hn] at hm
  replace hn := hide hn
  replace hl := hide hl
  replace hnm := hide hnm
  replace hgo := hide hgo
  clear hz
  by_cases h16 : 16 < n
  · have hz3 := hmany h16
    subst hz3
    clear hmany
    go_enter Tryz.func95, Tryz.ntmps95
    go_wp2_with fail
    go_ret
    exact ⟨rfl, (Ext.refl w).alloc _⟩
  · clear hmany
    go_enter Tryz.func95, Tryz.ntmps95
    go_wp2_with fail
    have hz0 := hgo.out (by omega)
    replace hz0 := hide hz0
    have hEW : Ext w (w.alloc (.cells #[.int .i64 at_, .slice A n c] 89)) := (Ext.refl w).alloc _
    obtain ⟨W0, hW0⟩ : ∃ W0, W0 = w.alloc (.cells #[.int .i64 at_, .slice A n c] 89) := ⟨_, rfl⟩
    rw [← hW0] at hEW ⊢
    clear hW0
    go_loopw [12] (fun s12 wr => ∃ i : Nat, s12 = .int .i64 i ∧ i ≤ n ∧ Hid (z = checkF (fs.drop i)) ∧ Hid (Ext w wr)) (fun s12 _ => n - (intOf s12).toNat)
    case atStart => exact ⟨0, rfl, by omega, hz0, hide hEW⟩
    case round =>
      obtain ⟨i, rfl, hi, hz, hE⟩ := hrel
      by_cases hin : i < n
      · have hil : i < fs.length := by rw [← hn.out]; exact hin
        obtain ⟨f, hf⟩ : ∃ f, fs[i]? = some f := ⟨_, List.getElem?_eq_getElem hil⟩
        obtain ⟨g, o, rfl, k0, k1⟩ := fcells_at (hc.ext hE.out) hf
        obtain ⟨hl1, hl2⟩ := hl.out f (List.mem_of_getElem? hf)
        have hz2 := hz.out
        rw [checkF_drop hf] at hz2
        unfold strV at k0 k1
        have hglt : g < wr.heap.size := World.block_lt_of_cell? wr _ k0
        obtain ⟨nm, tx⟩ := f
        simp only at k0 k1 hl1 hl2 hz2
        have hnm1 := fun W => hnm.out nm W hl1
        obtain ⟨q, hq⟩ : ∃ q, q = nameL nm := ⟨_, rfl⟩
        rw [← hq] at hnm1 hz2
        replace hnm1 := hide hnm1
        replace hz2 := hide hz2
        clear hf hq
        go_wp2_with fail
        have hrow : Row (wr.alloc (.cells #[.string ⟨nm.toArray⟩, .string ⟨tx.toArray⟩] 126)) wr.heap.size 126 #[.string ⟨nm.toArray⟩, .string ⟨tx.toArray⟩] := Row.new wr _ _
        have hE1 : Ext w (wr.alloc (.cells #[.string ⟨nm.toArray⟩, .string ⟨tx.toArray⟩] 126)) := hE.out.trans ((Ext.refl wr).alloc _)
        refine (hnm1.out _).mono ?_
        rintro e w3 ⟨rfl, hE3⟩
        have k3 : w3.cell? ⟨wr.heap.size, 1, none⟩ = some (.string ⟨tx.toArray⟩) := hE3.cell (hrow.cell 1 rfl)
        have hE4 := hide (hE1.trans hE3)
        clear hrow hE1
        cases q with
        | false =>
          obtain rfl : z = 100 := by rw [hz2.out]; rfl
          go_wp2_with fail
          go_ret
          exact ⟨rfl, hE4.out⟩
        | true =>
          by_cases hlt : 4096 < tx.length
          · obtain rfl : z = 2 := by rw [hz2.out, if_neg (by simp), if_pos hlt]
            go_wp2_with fail
            go_ret
            exact ⟨rfl, hE4.out⟩
          · have hz3 := hide (show z = checkF (fs.drop (i + 1)) by rw [hz2.out, if_neg (by simp), if_neg hlt])
            go_wp2_with fail
            go_roundw
            case rel => exact ⟨i + 1, by go_num, by omega, hz3, hE4⟩
            case measure => simp [intOf]; omega
      · have hz0 := hz.out
        rw [List.drop_of_length_le (by rw [← hn.out]; omega)] at hz0
        have hz1 : z = 0 := hz0
        subst hz1
        go_wp2_with fail
        go_ret
        exact ⟨rfl, hE.out⟩
end Go.Proofs.YtohphanbnhiodaaGreat

/- 'append' of an element of several cells. -/
namespace Go.Proofs.YtohphanbnhiodaaGreat
open Go.RowKit

/-- 'append' of values that the statement has just laid in a new block; an element has more than one cell. -/
theorem wpList_appS {P : Program} {ops : Array Oper} {rest : List Oper} {o : Oper} {a : Act} {Q : Exit → Act → World → Prop} {w0 : World} {us : List Value} {T : TypeId} {t e size bytes m : Nat} (E : Elem P t e size bytes)
    {base : Nat} {v : Value} {n : Nat} {xs : List Value} (hown : w0.ownsRow base e size v n xs) (s x : Operand)
    (ho : o.op = .call { callee := .builtin .append, args := #[s, x], argTypes := #[t, t] }) (hgd : o.guard = none)
    (hs : a.eval s = v) (hx : a.eval x = .slice (some ⟨w0.heap.size, 0, none⟩) m m) (hl : us.length = m * size) (h1 : ∀ u ∈ us, u.oneCell' = true) (hsz : n + m ≤ 4294967296) (hbase : base ≤ w0.heap.size)
    (h : ∀ A1 c1 w', w'.ownsRow base e size (.slice A1 (n + m) c1) (n + m) (xs ++ us) → w0.grownBy w' v.ownBlock → ((Value.slice A1 (n + m) c1).ownBlock = v.ownBlock ∨ (Value.slice A1 (n + m) c1).ownBlock = some (w0.heap.size + 1)) →
      wpList P ops Q rest (a.put o.dst (.slice A1 (n + m) c1)) w') :
    wpList P ops Q (o :: rest) a (w0.alloc (.cells us.toArray T)) := by
  refine wpList_app E (((Ext.refl w0).alloc _).owns hown) (A := some ⟨w0.heap.size, 0, none⟩) (news := us) (.inr ⟨w0.heap.size, 0, rfl, fun i u hu => ?_⟩) s x ho hgd hs hx rfl hl h1 hsz (by simp; omega) fun A1 c1 w' h2 h3 h4 => ?_
  · rw [Nat.zero_add, cell_of_row _ _ _ _ _ _ (heap_alloc_new w0 _)]
    simpa using hu
  · refine h A1 c1 w' h2 ⟨h3.os, h3.tape, h3.output, Nat.le_trans (by simp) h3.size, fun k hk hne => (h3.block k (by simp; omega) hne).trans (Below.heap_alloc w0 _ k hk)⟩ ?_
    simpa using h4
end Go.Proofs.YtohphanbnhiodaaGreat

/- Rows of events, and whose they are. -/
namespace Go.Proofs.YtohphanbnhiodaaGreat
open Go.RowKit

def I64ok' (z : Int) : Prop := -9223372036854775808 ≤ z ∧ z ≤ 9223372036854775807
theorem owns_lower {w : World} {base b : Nat} {e : TypeId} {size : Nat} {v : Value} {n : Nat} {xs : List Value} (h : w.ownsRow base e size v n xs) (hb : b ≤ base) : w.ownsRow b e size v n xs := by
  refine ⟨h.1, ?_⟩
  rcases h.2 with h2 | ⟨g, cap, cur, hv, hg, r⟩
  · exact .inl h2
  · exact .inr ⟨g, cap, cur, hv, Nat.le_trans hb hg, r⟩
/-- An event whose fields' row is a call's own. -/
def Ev.Own (e : Ev) (w : World) (base : Nat) (A : Option Addr) (c : Nat) : Prop := w.ownsRow base 126 2 (.slice A e.fs.length c) e.fs.length (fcells e.fs) ∧ (∀ f ∈ e.fs, f.1.length ≤ 9223372036854775807 ∧ f.2.length ≤ 9223372036854775807) ∧ e.fs.length ≤ 20
theorem Ev.Own.ok {e : Ev} {w : World} {base c : Nat} {A : Option Addr} (h : e.Own w base A c) : e.Ok w A := ⟨Cells.of_own h.1, by have := h.2.2; omega, h.2.1⟩
theorem Ev.Own.nil (w : World) (base : Nat) (at_ : Int) : Ev.Own ⟨at_, []⟩ w base none 0 := ⟨⟨rfl, .inl ⟨rfl, rfl⟩⟩, nofun, by simp⟩
/-- As wpList_appS; the new block's number is told apart. -/
theorem wpList_appZ {P : Program} {ops : Array Oper} {rest : List Oper} {o : Oper} {a : Act} {Q : Exit → Act → World → Prop} {w0 : World} {us : List Value} {T : TypeId} {t e size bytes m k : Nat} (E : Elem P t e size bytes)
    {base : Nat} {v : Value} {n : Nat} {xs : List Value} (hown : w0.ownsRow base e size v n xs) (hk : k = w0.heap.size) (s x : Operand)
    (ho : o.op = .call { callee := .builtin .append, args := #[s, x], argTypes := #[t, t] }) (hgd : o.guard = none)
    (hs : a.eval s = v) (hx : a.eval x = .slice (some ⟨k, 0, none⟩) m m) (hl : us.length = m * size) (h1 : ∀ u ∈ us, u.oneCell' = true) (hsz : n + m ≤ 4294967296) (hbase : base ≤ w0.heap.size)
    (h : ∀ A1 c1 w', w'.ownsRow base e size (.slice A1 (n + m) c1) (n + m) (xs ++ us) → w0.grownBy w' v.ownBlock → ((Value.slice A1 (n + m) c1).ownBlock = v.ownBlock ∨ (Value.slice A1 (n + m) c1).ownBlock = some (w0.heap.size + 1)) →
      wpList P ops Q rest (a.put o.dst (.slice A1 (n + m) c1)) w') :
    wpList P ops Q (o :: rest) a (w0.alloc (.cells us.toArray T)) := by
  subst hk
  exact wpList_appS E hown s x ho hgd hs hx hl h1 hsz hbase h
set_option maxRecDepth 100000 in
theorem elemFd : Elem Tryz.prog 87 126 2 32 := ⟨Tryz.underlying87, ⟨_, _, rfl, rfl, rfl, rfl, rfl⟩, by omega, by omega⟩
/-- An event where it lies: its fields' slice. -/
structure EvC where
  e : Ev
  A : Option Addr
  c : Nat
def EvC.val (x : EvC) : Value := x.e.val x.A x.c
def EvC.cells (x : EvC) : List Value := [.int .i64 x.e.at_, .slice x.A x.e.fs.length x.c]
def ecells (l : List EvC) : List Value := l.flatMap EvC.cells
theorem ecells_len : ∀ l : List EvC, (ecells l).length = l.length * 2
  | [] => rfl
  | x :: l => by
    have := ecells_len l
    unfold ecells at this ⊢
    rw [List.flatMap_cons, List.length_append, this, List.length_cons]
    simp [EvC.cells]
    omega
theorem ecells_get : ∀ (l : List EvC) (i : Nat) (x : EvC) (k : Nat), l[i]? = some x → k < 2 → (ecells l)[i * 2 + k]? = x.cells[k]?
  | [], i, x, k, h, _ => by simp at h
  | y :: l, 0, x, k, h, hk => by
    obtain rfl : y = x := by simpa using h
    unfold ecells
    rw [List.flatMap_cons, List.getElem?_append_left (by simp [EvC.cells]; omega), Nat.zero_mul, Nat.zero_add]
  | y :: l, i + 1, x, k, h, hk => by
    have h' : l[i]? = some x := by simpa using h
    have ih := ecells_get l i x k h' hk
    unfold ecells at ih ⊢
    rw [List.flatMap_cons, List.getElem?_append_right (by simp [EvC.cells]; omega)]
    have : (i + 1) * 2 + k - (EvC.cells y).length = i * 2 + k := by
      have : (EvC.cells y).length = 2 := rfl
      omega
    rw [this]
    exact ih
theorem ecells_snoc (l : List EvC) (x : EvC) : ecells (l ++ [x]) = ecells l ++ x.cells := by
  unfold ecells
  rw [List.flatMap_append]
  simp
theorem ecells_at {w : World} {A : Option Addr} {l : List EvC} (h : Cells w A (ecells l)) {i : Nat} {x : EvC} (hx : l[i]? = some x) : ∃ g o, A = some ⟨g, o, none⟩ ∧ w.cell? ⟨g, o + i * 2, none⟩ = some (.int .i64 x.e.at_) ∧ w.cell? ⟨g, o + i * 2 + 1, none⟩ = some (.slice x.A x.e.fs.length x.c) := by
  have hi := (List.getElem?_eq_some_iff.1 hx).1
  obtain ⟨g, o, hA, hc⟩ := h.at_ (by rw [ecells_len]; omega)
  refine ⟨g, o, hA, ?_, ?_⟩
  · exact hc (i * 2 + 0) _ (by rw [ecells_get l i x 0 hx (by omega)]; rfl)
  · rw [Nat.add_assoc]
    exact hc (i * 2 + 1) _ (by rw [ecells_get l i x 1 hx (by omega)]; rfl)
/-- A row of events lies at A. -/
structure EvsOk (w : World) (A : Option Addr) (l : List EvC) : Prop where
  cells : Cells w A (ecells l)
  each : ∀ x ∈ l, x.e.Ok w x.A
theorem EvsOk.ext {w w1 : World} {A : Option Addr} {l : List EvC} (h : EvsOk w A l) (hE : Ext w w1) : EvsOk w1 A l := ⟨h.cells.ext hE, fun x hx => (h.each x hx).ext hE⟩
theorem EvsOk.nil (w : World) (A : Option Addr) : EvsOk w A [] := ⟨.inl rfl, nofun⟩
set_option maxRecDepth 100000 in
theorem elemEv : Elem Tryz.prog 78 89 2 32 := ⟨Tryz.underlying78, ⟨_, _, rfl, rfl, rfl, rfl, rfl⟩, by omega, by omega⟩
/-- An event whose fields' row is the call's own. -/
def EvC.Own (x : EvC) (w : World) (base : Nat) : Prop := x.e.Own w base x.A x.c
theorem EvC.Own.ok {x : EvC} {w : World} {base : Nat} (h : x.Own w base) : x.e.Ok w x.A := Ev.Own.ok h
theorem EvC.Own.chg {x : EvC} {w w' : World} {base : Nat} {S : Nat → Prop} (h : x.Own w base) (hc : Chg S w w') (hS : ∀ g cs, Row w g 126 cs → ¬ S g) : x.Own w' base :=
  ⟨hc.owns h.1 fun g hg => by obtain ⟨cs, hr, _⟩ := owns_row h.1 hg; exact hS g cs hr, h.2⟩
end Go.Proofs.YtohphanbnhiodaaGreat

/- Events and batches as bytes, plainly. -/
namespace Go.Proofs.YtohphanbnhiodaaGreat
open Go.RowKit

/-- A text's bytes, with how many they are. -/
def txL (s : List UInt8) : List UInt8 := vb s.length ++ s
def getT (most : Nat) (l : List UInt8) : Except Nat (List UInt8 × List UInt8) := match getV 0 l with
  | .error k => .error k
  | .ok (n, r) => if most < n then .error 2 else if r.length < n then .error 6 else .ok (r.take n, r.drop n)
theorem getT_put {most : Nat} {s : List UInt8} (h : s.length ≤ most) (h2 : s.length < 18446744073709551616) (r : List UInt8) : getT most (txL s ++ r) = .ok (s, r) := by
  unfold getT txL
  rw [List.append_assoc, getV_put h2]
  simp only
  rw [if_neg (by omega), if_neg (by rw [List.length_append]; omega), List.take_left' rfl, List.drop_left' rfl]
theorem getT_ok {most : Nat} {l s r : List UInt8} (h : getT most l = .ok (s, r)) : s.length ≤ most ∧ r.length + s.length < l.length ∧ ∃ p, l = p ++ r := by
  unfold getT at h
  split at h
  · cases h
  · rename_i n r0 hg
    obtain ⟨_, _, p, rfl, hp⟩ := getV_lt l 0 n r0 hg
    have hp1 : 1 ≤ p.length := List.length_pos_iff.2 hp
    split at h
    · cases h
    · split at h
      · cases h
      · injection h with h
        injection h with h1 h2
        refine ⟨by rw [← h1, List.length_take]; omega, by rw [← h1, ← h2, List.length_take, List.length_drop, List.length_append]; omega, p ++ r0.take n, ?_⟩
        rw [← h2, List.append_assoc, List.take_append_drop]
def putF (f : Fd) : List UInt8 := txL f.1 ++ txL f.2
def putFs (fs : List Fd) : List UInt8 := fs.flatMap putF
/-- An event's bytes. -/
def putE (e : Ev) : List UInt8 := vb (zig e.at_) ++ vb e.fs.length ++ putFs e.fs
def sizeF (f : Fd) : Nat := f.1.length + f.2.length
def sizeFs (fs : List Fd) : Nat := (fs.map sizeF).sum
/-- What an event counts. -/
def sizeE (e : Ev) : Nat := 16 + sizeFs e.fs
/-- The fields that stand first, so many of them. -/
def getFs : Nat → List UInt8 → Option (List Fd × List UInt8)
  | 0, l => some ([], l)
  | k + 1, l => match getT 32 l with
    | .error _ => none
    | .ok (nm, r) => match getT 4096 r with
      | .error _ => none
      | .ok (tx, r2) => match getFs k r2 with
        | none => none
        | some (fs, r3) => some ((nm, tx) :: fs, r3)
/-- The event that stands first. -/
def getE (l : List UInt8) : Option (Ev × List UInt8) := match getV 0 l with
  | .error _ => none
  | .ok (u, r) => match getV 0 r with
    | .error _ => none
    | .ok (n, r2) => if 16 < n then none else match getFs n r2 with
      | none => none
      | some (fs, r3) => if checkE fs = 0 then some (⟨unzig u, fs⟩, r3) else none
/-- A batch: its first number, its events. -/
structure Bt where
  seq : Int
  es : List Ev
def sizeEs (es : List Ev) : Nat := (es.map sizeE).sum
def checkEs : List Ev → Nat
  | [] => 0
  | e :: es => if checkE e.fs = 0 then checkEs es else checkE e.fs
/-- What is told of a batch. -/
def checkB (b : Bt) : Nat := if b.es.length = 0 then 1 else if 64 < b.es.length then 3 else if checkEs b.es ≠ 0 then checkEs b.es else if 65536 < sizeEs b.es then 2 else if b.seq < 1 ∨ 1099511627776 - (b.es.length : Int) + 1 < b.seq then 5 else 0
def putEs (es : List Ev) : List UInt8 := es.flatMap putE
/-- A batch's bytes. -/
def encB (b : Bt) : List UInt8 := vb b.seq.toNat ++ vb b.es.length ++ putEs b.es
def getEs : Nat → List UInt8 → Option (List Ev × List UInt8)
  | 0, l => some ([], l)
  | k + 1, l => match getE l with
    | none => none
    | some (e, r) => match getEs k r with
      | none => none
      | some (es, r2) => some (e :: es, r2)
/-- The batch of bytes. -/
def decB (l : List UInt8) : Option Bt := match getV 0 l with
  | .error _ => none
  | .ok (q, r) => if 1099511627776 < q then none else match getV 0 r with
    | .error _ => none
    | .ok (n, r2) => if 64 < n then none else match getEs n r2 with
      | none => none
      | some (es, r3) => if r3 = [] ∧ checkB ⟨q, es⟩ = 0 then some ⟨q, es⟩ else none
theorem getFs_put : ∀ (fs : List Fd) (r : List UInt8), (∀ f ∈ fs, f.1.length ≤ 32 ∧ f.2.length ≤ 4096) → getFs fs.length (putFs fs ++ r) = some (fs, r)
  | [], r, _ => rfl
  | f :: fs, r, h => by
    have hf := h f (by simp)
    show getFs (fs.length + 1) _ = _
    unfold getFs
    rw [show putFs (f :: fs) ++ r = txL f.1 ++ (txL f.2 ++ (putFs fs ++ r)) by unfold putFs; rw [List.flatMap_cons]; unfold putF; simp, getT_put hf.1 (by omega)]
    simp only
    rw [getT_put hf.2 (by omega)]
    simp only
    rw [getFs_put fs r fun x hx => h x (by simp [hx])]
theorem checkF_fs : ∀ {fs : List Fd}, checkF fs = 0 → ∀ f ∈ fs, f.1.length ≤ 32 ∧ f.2.length ≤ 4096
  | [], _ => nofun
  | f :: fs, h => by
    unfold checkF at h
    split at h
    · cases h
    · rename_i hn
      split at h
      · cases h
      · intro g hg
        rcases List.mem_cons.1 hg with rfl | hg
        · refine ⟨?_, by omega⟩
          unfold nameL at hn
          simp at hn
          omega
        · exact checkF_fs h g hg
theorem checkE_fs {fs : List Fd} (h : checkE fs = 0) : fs.length ≤ 16 ∧ ∀ f ∈ fs, f.1.length ≤ 32 ∧ f.2.length ≤ 4096 := by
  unfold checkE at h
  split at h
  · cases h
  · exact ⟨by omega, checkF_fs h⟩
theorem getE_put {e : Ev} (ha : I64ok' e.at_) (h : checkE e.fs = 0) (r : List UInt8) : getE (putE e ++ r) = some (e, r) := by
  obtain ⟨h16, hfs⟩ := checkE_fs h
  unfold getE putE
  rw [List.append_assoc, List.append_assoc, getV_put (zig_lt ha.1 ha.2)]
  simp only
  rw [getV_put (by omega)]
  simp only
  rw [if_neg (by omega), getFs_put _ _ hfs]
  simp only
  rw [if_pos h, unzig_zig]
theorem checkEs_all : ∀ {es : List Ev}, checkEs es = 0 → ∀ e ∈ es, checkE e.fs = 0
  | [], _ => nofun
  | x :: es, h => by
    unfold checkEs at h
    split at h
    · rename_i hx
      intro e he
      rcases List.mem_cons.1 he with rfl | he
      · exact hx
      · exact checkEs_all h e he
    · rename_i hx
      exact absurd h hx
theorem checkEs_zero : ∀ {es : List Ev}, (∀ e ∈ es, checkE e.fs = 0) → checkEs es = 0
  | [], _ => rfl
  | e :: es, h => by
    unfold checkEs
    rw [if_pos (h e (by simp))]
    exact checkEs_zero fun x hx => h x (by simp [hx])
theorem checkEs_at : ∀ {es : List Ev} {i : Nat} {e : Ev}, es[i]? = some e → (∀ x ∈ es.take i, checkE x.fs = 0) → checkE e.fs ≠ 0 → checkEs es = checkE e.fs
  | [], i, e, h, _, _ => by simp at h
  | x :: es, 0, e, h, _, hne => by
    obtain rfl : x = e := by simpa using h
    unfold checkEs
    rw [if_neg hne]
  | x :: es, i + 1, e, h, hk, hne => by
    unfold checkEs
    rw [if_pos (hk x (by simp))]
    exact checkEs_at (by simpa using h) (fun y hy => hk y (by simp [hy])) hne
theorem checkB_ok {b : Bt} (h : checkB b = 0) : 1 ≤ b.es.length ∧ b.es.length ≤ 64 ∧ (∀ e ∈ b.es, checkE e.fs = 0) ∧ sizeEs b.es ≤ 65536 ∧ 1 ≤ b.seq ∧ b.seq ≤ 1099511627776 := by
  unfold checkB at h
  split at h
  · cases h
  · split at h
    · cases h
    · split at h
      · rename_i h1; exact absurd h h1
      · rename_i h1
        split at h
        · cases h
        · split at h
          · cases h
          · exact ⟨by omega, by omega, checkEs_all (by omega), by omega, by omega, by omega⟩
theorem getEs_put : ∀ (es : List Ev) (r : List UInt8), (∀ e ∈ es, I64ok' e.at_ ∧ checkE e.fs = 0) → getEs es.length (putEs es ++ r) = some (es, r)
  | [], r, _ => rfl
  | e :: es, r, h => by
    have he := h e (by simp)
    show getEs (es.length + 1) _ = _
    unfold getEs
    rw [show putEs (e :: es) ++ r = putE e ++ (putEs es ++ r) by unfold putEs; rw [List.flatMap_cons, List.append_assoc], getE_put he.1 he.2]
    simp only
    rw [getEs_put es r fun x hx => h x (by simp [hx])]
/-- There and back. -/
theorem decB_enc {b : Bt} (h : checkB b = 0) (ha : ∀ e ∈ b.es, I64ok' e.at_) : decB (encB b) = some b := by
  obtain ⟨h1, h64, hck, _, hs1, hs2⟩ := checkB_ok h
  unfold decB encB
  rw [List.append_assoc, getV_put (by omega)]
  simp only
  rw [if_neg (by omega), getV_put (by omega)]
  simp only
  rw [if_neg (by omega)]
  have hg := getEs_put b.es [] fun e he => ⟨ha e he, hck e he⟩
  rw [List.append_nil] at hg
  rw [hg]
  simp only
  have hq : ((b.seq.toNat : Nat) : Int) = b.seq := by omega
  rw [hq, if_pos ⟨trivial, h⟩]
theorem vb_le10 {n : Nat} (h : n < 18446744073709551616) : (vb n).length ≤ 10 := vb_len10 h
theorem txL_len {s : List UInt8} (h : s.length < 18446744073709551616) : (txL s).length ≤ 10 + s.length := by
  unfold txL
  rw [List.length_append]
  have := vb_le10 h
  omega
theorem putFs_len : ∀ {fs : List Fd}, (∀ f ∈ fs, f.1.length ≤ 32 ∧ f.2.length ≤ 4096) → (putFs fs).length ≤ 20 * fs.length + sizeFs fs
  | [], _ => by simp [putFs, sizeFs]
  | f :: fs, h => by
    have h1 := putFs_len (fs := fs) fun x hx => h x (by simp [hx])
    have hf := h f (by simp)
    have h2 := txL_len (s := f.1) (by omega)
    have h3 := txL_len (s := f.2) (by omega)
    have h4 : (putFs (f :: fs)).length = (txL f.1).length + (txL f.2).length + (putFs fs).length := by unfold putFs; rw [List.flatMap_cons, List.length_append]; unfold putF; rw [List.length_append]
    have h5 : sizeFs (f :: fs) = f.1.length + f.2.length + sizeFs fs := by unfold sizeFs; rw [List.map_cons, List.sum_cons]; rfl
    rw [h4, h5, List.length_cons]
    omega
theorem putE_len {e : Ev} (ha : I64ok' e.at_) (h : checkE e.fs = 0) : (putE e).length ≤ 400 + sizeE e := by
  obtain ⟨h16, hfs⟩ := checkE_fs h
  have h1 := putFs_len hfs
  have h2 := vb_le10 (zig_lt ha.1 ha.2)
  have h3 := vb_le10 (n := e.fs.length) (by omega)
  unfold putE sizeE
  rw [List.length_append, List.length_append]
  omega
theorem putEs_len : ∀ {es : List Ev}, (∀ e ∈ es, I64ok' e.at_ ∧ checkE e.fs = 0) → (putEs es).length ≤ 400 * es.length + sizeEs es
  | [], _ => by simp [putEs, sizeEs]
  | e :: es, h => by
    have h1 := putEs_len (es := es) fun x hx => h x (by simp [hx])
    have he := h e (by simp)
    have h2 := putE_len he.1 he.2
    have h4 : (putEs (e :: es)).length = (putE e).length + (putEs es).length := by unfold putEs; rw [List.flatMap_cons, List.length_append]
    have h5 : sizeEs (e :: es) = sizeE e + sizeEs es := by unfold sizeEs; rw [List.map_cons, List.sum_cons]
    rw [h4, h5, List.length_cons]
    omega
theorem encB_len {b : Bt} (h : checkB b = 0) (ha : ∀ e ∈ b.es, I64ok' e.at_) : (encB b).length ≤ 100000 := by
  obtain ⟨h1, h64, hck, hsz, hs1, hs2⟩ := checkB_ok h
  have h2 := putEs_len fun e he => ⟨ha e he, hck e he⟩
  have h3 := vb_le10 (n := b.seq.toNat) (by omega)
  have h4 := vb_le10 (n := b.es.length) (by omega)
  unfold encB
  rw [List.length_append, List.length_append]
  omega
end Go.Proofs.YtohphanbnhiodaaGreat

/- loggia/varint: Get. -/
namespace Go.Proofs.YtohphanbnhiodaaGreat
open Go.RowKit

/-- A slice of bytes that may be read. -/
structure In8 (w : World) (A : Option Addr) (n c : Nat) (l : List UInt8) : Prop where
  len : n = l.length
  bytes : Bs w A l
  cap : n ≤ c
  nil_ : A = none → c = 0
  at_ : ∀ a, A = some a → a.spot = Option.none ∧ a.block < w.heap.size
theorem In8.ext {w w1 : World} {A : Option Addr} {n c : Nat} {l : List UInt8} (h : In8 w A n c l) (hE : Ext w w1) : In8 w1 A n c l :=
  ⟨h.len, h.bytes.ext hE, h.cap, h.nil_, fun a ha => ⟨(h.at_ a ha).1, Nat.lt_of_lt_of_le (h.at_ a ha).2 hE.size⟩⟩
theorem Buf.in8 {w : World} {base : Nat} {e : TypeId} {A : Option Addr} {n c : Nat} {l : List UInt8} (h : Buf w base e A n c (l.map B8)) : In8 w A n c l := by
  refine ⟨by have := h.1; simpa using this.symm, h.cells, h.2.1, h.none_cap, fun a ha => ⟨?_, h.lt a ha⟩⟩
  rcases h.2.2 with ⟨h0, _⟩ | ⟨g, cur, hA, _⟩
  · rw [h0] at ha; cases ha
  · rw [hA] at ha; cases ha; rfl
def comb (i acc : Nat) : Except Nat (Nat × List UInt8) → Except Nat (Nat × List UInt8)
  | .ok (n, r) => .ok (acc + 128 ^ i * n, r)
  | .error e => .error e
theorem comb_zero (x : Except Nat (Nat × List UInt8)) : comb 0 0 x = x := by
  unfold comb
  split <;> simp
def Got (w0 w : World) (res : Except Nat (Nat × List UInt8)) (e : Ending) (w' : World) : Prop := Ext w w' ∧ match res with
  | .ok (v, r) => ∃ A c, e = .returned (.tuple #[.int .u64 v, .slice A r.length c, .int .i64 0]) ∧ In8 w0 A r.length c r
  | .error k => e = .returned (.tuple #[.int .u64 0, .slice none 0 0, .int .i64 k])
set_option maxRecDepth 100000 in
theorem run_head1 {n c k : Nat} {A : Option Addr} (h : k ≤ c) (hA : ∀ a, A = some a → a.spot = none) (W : World) :
    (Instr.sliceAt 34 (.slice A n c) none (some (.int .i64 k)) none).run Tryz.prog W = .ok (.slice A k c) W := by
  have ht := Tryz.underlying34
  have he : Tryz.prog.elem 34 = 5 := by unfold Program.elem; rw [ht]
  have hs : ∀ W : World, (sizeOf 5).run Tryz.prog W = .ok 1 W := fun W => by kernel_rfl
  rw [run_sliceAt_slice W _ _ _ _ _ (by rw [ht, he]), run_slice_h W _ A n c (by rw [ht, he]) .i64 k (by omega) (by omega), he, hs]
  simp only [Result.andThen_ok]
  congr 1
  unfold sliced
  have : (if c = 0 then A else A.map fun x => x.add (0 * 1)) = A := by
    cases A with
    | none => simp
    | some a =>
      obtain ⟨b, o, sp⟩ := a
      obtain rfl : sp = none := hA _ rfl
      simp [Addr.add_lit]
  rw [this]
  simp
set_option maxRecDepth 100000 in
theorem In8.from_ {w : World} {A : Option Addr} {n c : Nat} {l : List UInt8} (h : In8 w A n c l) {fr : Nat} (hf : fr ≤ n) {z : Int} (hz : z = (fr : Int)) :
    ∃ A' c', (∀ W : World, (Instr.sliceAt 34 (.slice A n c) (some (.int .i64 z)) none none).run Tryz.prog W = .ok (.slice A' (n - fr) c') W) ∧ In8 w A' (n - fr) c' (l.drop fr) := by
  subst hz
  have ht := Tryz.underlying34
  have he : Tryz.prog.elem 34 = 5 := by unfold Program.elem; rw [ht]
  have hs : ∀ W : World, (sizeOf 5).run Tryz.prog W = .ok 1 W := fun W => by kernel_rfl
  have hrun : ∀ W : World, (Instr.sliceAt 34 (.slice A n c) (some (.int .i64 fr)) none none).run Tryz.prog W = .ok (sliced A fr n c 1) W := by
    intro W
    rw [run_sliceAt_slice W _ _ _ _ _ (by rw [ht, he]), run_slice_l W _ A n c (by rw [ht, he]) .i64 fr (by omega) (by omega), he, hs]
    simp only [Result.andThen_ok]
    congr 1
  have hcap := h.cap
  refine ⟨_, _, hrun, by rw [List.length_drop, ← h.len], ?_, by omega, ?_, ?_⟩
  · rcases h.bytes with hb | ⟨g, o, rfl, hb⟩
    · left
      have : l = [] := by simpa using hb
      rw [this]
      simp
    · by_cases hcf : c = fr
      · left
        have := h.len
        rw [List.drop_of_length_le (by omega)]
        rfl
      · refine .inr ⟨g, o + fr, by rw [if_neg hcf]; simp [Addr.add_lit], fun i v hv => ?_⟩
        rw [Nat.add_assoc]
        refine hb (fr + i) v ?_
        rw [List.getElem?_map] at hv ⊢
        rw [List.getElem?_drop] at hv
        exact hv
  · intro hn
    cases A with
    | none => have := h.nil_ rfl; omega
    | some a => split at hn <;> cases hn
  · intro a ha
    cases A with
    | none => split at ha <;> cases ha
    | some b =>
      obtain ⟨h1, h2⟩ := h.at_ b rfl
      obtain ⟨b, o, sp⟩ := b
      obtain rfl : sp = Option.none := h1
      split at ha
      · cases ha; exact ⟨rfl, h2⟩
      · cases ha
        show (Addr.add ⟨b, o, none⟩ (fr * 1)).spot = none ∧ (Addr.add ⟨b, o, none⟩ (fr * 1)).block < w.heap.size
        rw [Addr.add_lit]
        exact ⟨rfl, h2⟩
theorem getV_get {l : List UInt8} {i : Nat} {x : UInt8} (h : l[i]? = some x) (h10 : i < 10) (acc : Nat) : comb i acc (getV i (l.drop i)) = if (i = 9 ∧ 1 < x.toNat) ∨ (0 < i ∧ x.toNat = 0) then .error 20 else
    if x.toNat < 128 then .ok (acc + 128 ^ i * x.toNat, l.drop (i + 1)) else comb (i + 1) (acc + 128 ^ i * (x.toNat - 128)) (getV (i + 1) (l.drop (i + 1))) := by
  have hi := (List.getElem?_eq_some_iff.1 h).1
  have h2 := (List.getElem?_eq_some_iff.1 h).2
  rw [List.drop_eq_getElem_cons hi, h2]
  conv => lhs; unfold getV
  rw [if_neg (by omega)]
  by_cases hb : (i = 9 ∧ 1 < x.toNat) ∨ (0 < i ∧ x.toNat = 0)
  · rw [if_pos hb, if_pos hb]; rfl
  · rw [if_neg hb, if_neg hb]
    by_cases h128 : x.toNat < 128
    · rw [if_pos h128, if_pos h128]; rfl
    · rw [if_neg h128, if_neg h128]
      unfold comb
      cases getV (i + 1) (l.drop (i + 1)) with
      | error e => rfl
      | ok p =>
        obtain ⟨n, r⟩ := p
        simp only
        rw [Nat.mul_add, Nat.pow_succ, Nat.add_assoc, Nat.mul_assoc]
theorem getV_end {l : List UInt8} {i : Nat} (h : l.length ≤ i ∨ 10 ≤ i) (acc : Nat) : comb i acc (getV i (l.drop i)) = .error 6 := by
  rcases h with h | h
  · rw [List.drop_of_length_le h]; rfl
  · cases l.drop i with
    | nil => rfl
    | cons x r => unfold getV; rw [if_pos h]; rfl
theorem or_bits {i acc y : Nat} (hi : i ≤ 9) (ha : acc < 128 ^ i) (hy : y < 128) (h9 : i = 9 → y ≤ 1) : bits .or .u64 (acc : Int) (IntKind.u64.wrap ((y : Int) * 2 ^ (7 * i))) = ((acc + 128 ^ i * y : Nat) : Int) := by
  have e : ∀ y : Int, IntKind.u64.wrap y = y % 18446744073709551616 := fun y => by simp [IntKind.wrap, IntKind.bits, IntKind.signed]
  have hp : (128 : Nat) ^ i = 2 ^ (7 * i) := by rw [show (128 : Nat) = 2 ^ 7 from rfl, ← Nat.pow_mul]
  rw [hp] at ha ⊢
  have hlt : y * 2 ^ (7 * i) < 18446744073709551616 := by
    rcases Nat.lt_or_ge i 9 with h | h
    · have h1 : 2 ^ (7 * i) ≤ 2 ^ 56 := Nat.pow_le_pow_right (by omega) (by omega)
      have h2 : y * 2 ^ (7 * i) ≤ 127 * 2 ^ 56 := Nat.mul_le_mul (by omega) h1
      omega
    · obtain rfl : i = 9 := by omega
      have := h9 rfl
      have h2 : y * 2 ^ (7 * 9) ≤ 1 * 2 ^ 63 := Nat.mul_le_mul this (Nat.le_refl _)
      omega
  have ha2 : acc < 18446744073709551616 := Nat.lt_of_lt_of_le ha (by
    have : 2 ^ (7 * i) ≤ 2 ^ 63 := Nat.pow_le_pow_right (by omega) (by omega)
    omega)
  have hc : IntKind.u64.wrap ((y : Int) * 2 ^ (7 * i)) = ((y * 2 ^ (7 * i) : Nat) : Int) := by
    rw [e]
    have : (y : Int) * 2 ^ (7 * i) = ((y * 2 ^ (7 * i) : Nat) : Int) := by simp
    rw [this]
    omega
  rw [hc, u64_or_nat _ _ ha2 hlt]
  have := Nat.shiftLeft_add_eq_or_of_lt ha y
  rw [Nat.shiftLeft_eq] at this
  rw [Nat.or_comm, ← this, Nat.add_comm, Nat.mul_comm y]
theorem acc_lt {i acc y : Nat} (ha : acc < 128 ^ i) (hy : y < 128) : acc + 128 ^ i * y < 128 ^ (i + 1) := by
  have h := Nat.mul_le_mul_left (128 ^ i) (show y + 1 ≤ 128 by omega)
  rw [Nat.mul_add, Nat.mul_one] at h
  rw [Nat.pow_succ]
  omega
theorem got_ok {w0 w w' : World} {res : Except Nat (Nat × List UInt8)} {v : Nat} {r : List UInt8} {A : Option Addr} {m c : Nat} {E : Int} (hr : res = .ok (v, r)) (hE : Ext w w') (hi : In8 w0 A m c r) (hv : E = (v : Int)) : Got w0 w res (.returned (.tuple #[.int .u64 E, .slice A m c, .int .i64 0])) w' := by
  subst hr hv
  have := hi.len
  subst this
  exact ⟨hE, A, c, rfl, hi⟩
theorem got_err {w0 w w' : World} {res : Except Nat (Nat × List UInt8)} {k : Nat} (hr : res = .error k) (hE : Ext w w') : Got w0 w res (.returned (.tuple #[.int .u64 0, .slice none 0 0, .int .i64 k])) w' := by
  subst hr
  exact ⟨hE, rfl⟩
theorem and_low {x : Nat} (h : x < 256) : bits .and .u8 (x : Int) 127 = ((x % 128 : Nat) : Int) := by
  have hf : ∀ k : Fin 256, k.val &&& 127 = k.val % 128 := by decide +kernel
  have hk := hf ⟨x, h⟩
  simp only at hk
  rw [show (127 : Int) = ((127 : Nat) : Int) from rfl, u8_and_nat _ _ (by omega) (by omega), hk]
set_option maxRecDepth 100000 in
set_option maxHeartbeats 2000000 in
theorem get_any (A : Option Addr) (n c : Nat) (l : List UInt8) (w0 w : World) (h : In8 w0 A n c l) (hw : Ext w0 w) (hle : n ≤ 1000000000) :
    Calls Tryz.prog 106 #[.slice A n c] w fun e w' => Got w0 w (getV 0 l) e w' := by
  obtain ⟨k, hk⟩ : ∃ k : Nat, (k : Int) = min (n : Int) 10 := ⟨min n 10, by omega⟩
  have hcap := h.cap
  have hmin := fun (W : World) => run_min2 (P := Tryz.prog) #[3, 3] 3 hk W
  have hhd := fun (W : World) => run_head1 (n := n) (c := c) (k := k) (A := A) (by omega) (fun a ha => (h.at_ a ha).1) W
  have hk1 : k ≤ 10 := by omega
  have hk2 : k ≤ n := by omega
  have hk3 : n ≤ k ∨ 10 ≤ k := by omega
  replace hk := hide hk
  replace hk3 := hide hk3
  replace h := hide h
  go_enter Tryz.func106, Tryz.ntmps106
  go_wp2_with fail
  go_step3
  go_wp2_with fail
  go_step3
  go_wp2_with fail
  go_loopw [2, 4, 13] (fun s2 s4 s13 wr => ∃ (i acc : Nat), s13 = .int .i64 i ∧ s2 = .int .u64 acc ∧ s4 = .int .i64 6 ∧ i ≤ k ∧ acc < 128 ^ i ∧ Hid (getV 0 l = comb i acc (getV i (l.drop i))) ∧ Hid (Ext w wr)) (fun _ _ s13 _ => k - (intOf s13).toNat)
  case atStart => exact ⟨0, 0, rfl, rfl, rfl, by omega, by simp, hide (by rw [comb_zero]; rfl), hide (Ext.refl w)⟩
  case round =>
    obtain ⟨i, acc, rfl, rfl, rfl, hi, hacc, hg, hE⟩ := hrel
    by_cases hik : i < k
    · have hil : i < l.length := by rw [← h.out.len]; omega
      obtain ⟨g, o, rfl, hc⟩ := h.out.bytes.at_ (by omega)
      have hcell := (hw.trans hE.out).cell (hc i hil)
      have hgg := getV_get (List.getElem?_eq_getElem hil) (by omega) acc
      rw [← hg.out] at hgg
      obtain ⟨x, hx⟩ : ∃ x, x = l[i].toNat := ⟨_, rfl⟩
      have hx256 : x < 256 := by rw [hx]; exact l[i].toNat_lt
      rw [← hx] at hcell hgg
      replace hx := hide hx
      replace hgg := hide hgg
      have hand := and_low hx256
      obtain ⟨y, hy⟩ : ∃ y, y = x % 128 := ⟨_, rfl⟩
      rw [← hy] at hand
      replace hy := hide hy
      obtain ⟨A', c', hrun, hin⟩ := h.out.from_ (fr := i + 1) (by omega) (z := (i : Int) + 1) (by omega)
      have hor := fun h9 : i = 9 → y ≤ 1 => or_bits (i := i) (acc := acc) (y := y) (by omega) hacc (by have := hy.out; omega) h9
      replace hor := hide hor
      have hin' := hide hin
      clear hc hg hin
      have hnx := fun (h1 : ¬((i = 9 ∧ 1 < x) ∨ (0 < i ∧ x = 0))) (h2 : 128 ≤ x) => hgg.out.trans ((if_neg h1).trans (if_neg (by omega)))
      have hok := fun (h1 : ¬((i = 9 ∧ 1 < x) ∨ (0 < i ∧ x = 0))) (h2 : x < 128) => hgg.out.trans ((if_neg h1).trans (if_pos h2))
      have hbad := fun (h1 : (i = 9 ∧ 1 < x) ∨ (0 < i ∧ x = 0)) => hgg.out.trans (if_pos h1)
      have hyy : y < 128 := by have := hy.out; omega
      have hyx : x < 128 → y = x := fun h => by have := hy.out; omega
      have hyx2 : 128 ≤ x → y = x - 128 := fun h => by have := hy.out; omega
      have hz : ((x : Int) == 0) = true → x = 0 := fun h => by simp at h; omega
      have hz2 : ((x : Int) == 0) = false → x ≠ 0 := fun h => by simp at h; omega
      replace hnx := hide hnx
      replace hok := hide hok
      replace hbad := hide hbad
      replace hyx := hide hyx
      replace hyx2 := hide hyx2
      replace hz := hide hz
      replace hz2 := hide hz2
      by_cases h9 : i = 9
      · subst h9
        have hor9 : y ≤ 1 → bits .or .u64 (acc : Int) (IntKind.u64.wrap ((y : Int) * 9223372036854775808)) = ((acc + 128 ^ 9 * y : Nat) : Int) := fun hy1 => by
          have e : (2 : Int) ^ (7 * 9) = 9223372036854775808 := by simp
          have := hor.out fun _ => hy1
          rw [e] at this
          exact this
        replace hor9 := hide hor9
        obtain ⟨A9, c9, hrun9, hin9⟩ := h.out.from_ (fr := 10) (by omega) (z := 10) rfl
        replace hin9 := hide hin9
        clear hrun hin'
        go_wp2_with fail
        · go_ret3
          exact got_err (hbad.out (.inl ⟨by trivial, by omega⟩)) hE.out
        · go_ret3
          exact got_err (hbad.out (.inr ⟨by omega, hz.out (by assumption)⟩)) hE.out
        · refine wp_region_text follows (by kernel_rfl) (by kernel_rfl) (fun K hK => ?_)
          go_wp2_with fail
          refine ⟨by kernel_rfl, ?_⟩
          go_wp2_with fail
          go_ret3
          have hx1 : x ≤ 1 := by omega
          exact got_ok (hok.out (by have := hz2.out (by assumption); omega) (by omega)) hE.out.drew hin9.out (by rw [hor9.out (by have := hyx.out (by omega); omega), hyx.out (by omega)])
      · go_wp2_with fail
        · rw [Exit.noGoto_ret]
          go_ret3
          exact got_err (hbad.out (.inr ⟨by omega, hz.out (by assumption)⟩)) hE.out
        · refine wp_region_text follows (by kernel_rfl) (by kernel_rfl) (fun K hK => ?_)
          go_wp2_with fail
          refine ⟨by kernel_rfl, ?_⟩
          go_wp2_with fail
          rw [Exit.noGoto_ret]
          go_ret3
          exact got_ok (hok.out (by have := hz2.out (by assumption); omega) (by omega)) hE.out.drew hin'.out (by rw [hor.out (by omega), hyx.out (by omega)])
        · go_roundw
          case rel => exact ⟨i + 1, acc + 128 ^ i * y, by go_num, by rw [hor.out (by omega)], rfl, by omega, acc_lt hacc hyy, hide (by rw [hnx.out (by omega) (by omega), hyx2.out (by omega)]), hE⟩
          case measure => simp [intOf]; omega
        · refine wp_region_text follows (by kernel_rfl) (by kernel_rfl) (fun K hK => ?_)
          go_wp2_with fail
          refine ⟨by kernel_rfl, ?_⟩
          go_wp2_with fail
          rw [Exit.noGoto_ret]
          go_ret3
          exact got_ok (hok.out (by omega) (by omega)) hE.out.drew hin'.out (by rw [hor.out (by omega), hyx.out (by omega)])
        · go_roundw
          case rel => exact ⟨i + 1, acc + 128 ^ i * y, by go_num, by rw [hor.out (by omega)], rfl, by omega, acc_lt hacc hyy, hide (by rw [hnx.out (by omega) (by omega), hyx2.out (by omega)]), hE⟩
          case measure => simp [intOf]; omega
    · have hii : i = k := by omega
      have hge := getV_end (l := l) (i := i) (by rw [← h.out.len, hii]; exact hk3.out) acc
      rw [← hg.out] at hge
      replace hge := hide hge
      replace hii := hide hii
      go_wp2_with fail
      rw [Exit.noGoto_ret]
      go_ret3
      exact got_err hge.out hE.out
end Go.Proofs.YtohphanbnhiodaaGreat

/- loggiaref02: Get. -/
namespace Go.Proofs.YtohphanbnhiodaaGreat
open Go.RowKit

theorem add_bits {i acc y : Nat} (hi : i ≤ 9) (ha : acc < 128 ^ i) (hy : y < 128) (h9 : i = 9 → y ≤ 1) : IntKind.u64.wrap ((acc : Int) + IntKind.u64.wrap ((y : Int) * 2 ^ (7 * i))) = ((acc + 128 ^ i * y : Nat) : Int) := by
  have e : ∀ y : Int, IntKind.u64.wrap y = y % 18446744073709551616 := fun y => by simp [IntKind.wrap, IntKind.bits, IntKind.signed]
  have hlt : acc + 128 ^ i * y < 18446744073709551616 := by
    rcases Nat.lt_or_ge i 9 with h | h
    · have h1 := acc_lt ha hy
      have h2 : 128 ^ (i + 1) ≤ 128 ^ 9 := Nat.pow_le_pow_right (by omega) (by omega)
      omega
    · obtain rfl : i = 9 := by omega
      have := h9 rfl
      omega
  have hp : (128 : Nat) ^ i = 2 ^ (7 * i) := by rw [show (128 : Nat) = 2 ^ 7 from rfl, ← Nat.pow_mul]
  rw [hp] at hlt ⊢
  have : (y : Int) * 2 ^ (7 * i) = ((2 ^ (7 * i) * y : Nat) : Int) := by simp [Int.mul_comm]
  rw [e, e, this]
  omega
set_option maxRecDepth 100000 in
set_option maxHeartbeats 2000000 in
theorem rget_any (A : Option Addr) (n c : Nat) (l : List UInt8) (w0 w : World) (h : In8 w0 A n c l) (hw : Ext w0 w) (hle : n ≤ 1000000000) :
    Calls Tryz.prog 108 #[.slice A n c] w fun e w' => Got w0 w (getV 0 l) e w' := by
  have hcap := h.cap
  replace h := hide h
  go_enter Tryz.func108, Tryz.ntmps108
  go_wp2_with fail
  go_loopw [5, 6] (fun s5 s6 wr => ∃ (i acc : Nat), s6 = .int .i64 i ∧ s5 = .int .u64 acc ∧ i ≤ n ∧ i ≤ 10 ∧ acc < 128 ^ i ∧ Hid (getV 0 l = comb i acc (getV i (l.drop i))) ∧ Hid (Ext w wr)) (fun _ s6 _ => n - (intOf s6).toNat)
  case atStart => exact ⟨0, 0, rfl, rfl, by omega, by omega, by simp, hide (by rw [comb_zero]; rfl), hide (Ext.refl w)⟩
  case round =>
    obtain ⟨i, acc, rfl, rfl, hi, hi10, hacc, hg, hE⟩ := hrel
    by_cases hik : i < n ∧ i < 10
    · obtain ⟨hik, hi9⟩ := hik
      have hil : i < l.length := by rw [← h.out.len]; omega
      obtain ⟨g, o, rfl, hc⟩ := h.out.bytes.at_ (by omega)
      have hcell := (hw.trans hE.out).cell (hc i hil)
      have hgg := getV_get (List.getElem?_eq_getElem hil) (by omega) acc
      rw [← hg.out] at hgg
      obtain ⟨x, hx⟩ : ∃ x, x = l[i].toNat := ⟨_, rfl⟩
      have hx256 : x < 256 := by rw [hx]; exact l[i].toNat_lt
      rw [← hx] at hcell hgg
      replace hx := hide hx
      replace hgg := hide hgg
      obtain ⟨y, hy⟩ : ∃ y, y = x % 128 := ⟨_, rfl⟩
      have hmod : (x : Int) % 128 = (y : Int) := by omega
      have hyy : y < 128 := by omega
      replace hy := hide hy
      obtain ⟨A', c', hrun, hin⟩ := h.out.from_ (fr := i + 1) (by omega) (z := (i : Int) + 1) (by omega)
      have hin' := hide hin
      clear hc hg hin
      have hor := fun h9 : i = 9 → y ≤ 1 => add_bits (i := i) (acc := acc) (y := y) (by omega) hacc hyy h9
      replace hor := hide hor
      have hnx := fun (h1 : ¬((i = 9 ∧ 1 < x) ∨ (0 < i ∧ x = 0))) (h2 : 128 ≤ x) => hgg.out.trans ((if_neg h1).trans (if_neg (by omega)))
      have hok := fun (h1 : ¬((i = 9 ∧ 1 < x) ∨ (0 < i ∧ x = 0))) (h2 : x < 128) => hgg.out.trans ((if_neg h1).trans (if_pos h2))
      have hbad := fun (h1 : (i = 9 ∧ 1 < x) ∨ (0 < i ∧ x = 0)) => hgg.out.trans (if_pos h1)
      have hyx : x < 128 → y = x := fun h => by have := hy.out; omega
      have hyx2 : 128 ≤ x → y = x - 128 := fun h => by have := hy.out; omega
      have hz : ((x : Int) == 0) = true → x = 0 := fun h => by simp at h; omega
      have hz2 : ((x : Int) == 0) = false → x ≠ 0 := fun h => by simp at h; omega
      replace hnx := hide hnx
      replace hok := hide hok
      replace hbad := hide hbad
      replace hyx := hide hyx
      replace hyx2 := hide hyx2
      replace hz := hide hz
      replace hz2 := hide hz2
      by_cases h9 : i = 9
      · subst h9
        have hor9 : y ≤ 1 → IntKind.u64.wrap ((acc : Int) + IntKind.u64.wrap ((y : Int) * 9223372036854775808)) = ((acc + 128 ^ 9 * y : Nat) : Int) := fun hy1 => by
          have e : (2 : Int) ^ (7 * 9) = 9223372036854775808 := by simp
          have := hor.out fun _ => hy1
          rw [e] at this
          exact this
        replace hor9 := hide hor9
        obtain ⟨A9, c9, hrun9, hin9⟩ := h.out.from_ (fr := 10) (by omega) (z := 10) rfl
        replace hin9 := hide hin9
        clear hrun hin'
        go_wp2_with fail
        · go_ret3
          have h0 : (1 < (x : Int) ∨ ((x : Int) == 0) = true) := by assumption
          exact got_err (hbad.out (by rcases h0 with h0 | h0; exact .inl ⟨by trivial, by omega⟩; exact .inr ⟨by omega, hz.out h0⟩)) hE.out
        · refine wp_region_text follows (by kernel_rfl) (by kernel_rfl) (fun K hK => ?_)
          go_wp2_with fail
          refine ⟨by kernel_rfl, ?_⟩
          go_wp2_with fail
          go_ret3
          have hx1 : x ≤ 1 := by omega
          have h0 : ((x : Int) ≤ 1 ∧ ((x : Int) == 0) = false) := by assumption
          have h0' := hz2.out h0.2
          exact got_ok (hok.out (by omega) (by omega)) hE.out.drew hin9.out (by have h5 := hyx.out (by omega); have h6 : (128 : Nat) ^ 9 = 9223372036854775808 := rfl; omega)
        · go_ret3
          exact got_err (hbad.out (.inl ⟨by trivial, by omega⟩)) hE.out
      · go_wp2_with fail
        · go_ret3
          exact got_err (hbad.out (.inr ⟨by omega, hz.out (by assumption)⟩)) hE.out
        · refine wp_region_text follows (by kernel_rfl) (by kernel_rfl) (fun K hK => ?_)
          go_wp2_with fail
          refine ⟨by kernel_rfl, ?_⟩
          go_wp2_with fail
          go_ret3
          exact got_ok (hok.out (by have := hz2.out (by assumption); omega) (by omega)) hE.out.drew hin'.out (by rw [hor.out (by omega), hyx.out (by omega)])
        · go_roundw
          case rel => exact ⟨i + 1, acc + 128 ^ i * y, by go_num, by rw [hor.out (by omega)], by omega, by omega, acc_lt hacc hyy, hide (by rw [hnx.out (by omega) (by omega), hyx2.out (by omega)]), hE⟩
          case measure => simp [intOf]; omega
        · refine wp_region_text follows (by kernel_rfl) (by kernel_rfl) (fun K hK => ?_)
          go_wp2_with fail
          refine ⟨by kernel_rfl, ?_⟩
          go_wp2_with fail
          go_ret3
          exact got_ok (hok.out (by omega) (by omega)) hE.out.drew hin'.out (by rw [hor.out (by omega), hyx.out (by omega)])
        · go_roundw
          case rel => exact ⟨i + 1, acc + 128 ^ i * y, by go_num, by rw [hor.out (by omega)], by omega, by omega, acc_lt hacc hyy, hide (by rw [hnx.out (by omega) (by omega), hyx2.out (by omega)]), hE⟩
          case measure => simp [intOf]; omega
    · have hge := getV_end (l := l) (i := i) (by rw [← h.out.len]; omega) acc
      rw [← hg.out] at hge
      replace hge := hide hge
      clear hg
      go_wp2_with fail
      all_goals go_ret3
      all_goals exact got_err hge.out hE.out
end Go.Proofs.YtohphanbnhiodaaGreat

/- loggia/varint, loggiaref02: GetInt, GetAll. -/
namespace Go.Proofs.YtohphanbnhiodaaGreat
open Go.RowKit

set_option maxRecDepth 100000 in
theorem elemI : Elem Tryz.prog 35 3 1 8 := ⟨Tryz.underlying35, ⟨_, _, rfl, rfl, rfl, rfl, rfl⟩, by omega, by omega⟩
theorem getV_err : ∀ (l : List UInt8) (i k : Nat), getV i l = .error k → 0 < k
  | [], i, k, h => by unfold getV at h; cases h; omega
  | x :: l, i, k, h => by
    unfold getV at h
    split at h
    · cases h; omega
    · split at h
      · cases h; omega
      · split at h
        · cases h
        · split at h
          · cases h
          · rename_i e hg
            cases h
            exact getV_err l (i + 1) k hg
def GotI (w0 w : World) (res : Except Nat (Nat × List UInt8)) (e : Ending) (w' : World) : Prop := Ext w w' ∧ match res with
  | .ok (v, r) => ∃ A c, e = .returned (.tuple #[.int .i64 (unzig v), .slice A r.length c, .int .i64 0]) ∧ In8 w0 A r.length c r
  | .error k => e = .returned (.tuple #[.int .i64 0, .slice none 0 0, .int .i64 k])
/-- What so many whole numbers are told to be. -/
def GotA (w0 w : World) (k : Nat) (res : Except Nat (List Int × List UInt8)) (e : Ending) (w' : World) : Prop := Ext w w' ∧ match res with
  | .ok (ns, r) => ∃ A c B c2, e = .returned (.tuple #[.slice B k c2, .slice A r.length c, .int .i64 0]) ∧ Buf w' w.heap.size 3 B k c2 (ns.map (Value.int .i64)) ∧ In8 w0 A r.length c r
  | .error x => e = .returned (.tuple #[.slice none 0 0, .slice none 0 0, .int .i64 x]) ∧ 0 < x
def combA (ns : List Int) : Except Nat (List Int × List UInt8) → Except Nat (List Int × List UInt8)
  | .ok (ms, r) => .ok (ns ++ ms, r)
  | .error e => .error e
theorem combA_nil (x : Except Nat (List Int × List UInt8)) : combA [] x = x := by
  unfold combA
  split <;> simp
theorem getAll_step {k i : Nat} {ns : List Int} {l r : List UInt8} (h : getAll k l = combA ns (getAll (k - i) r)) (hi : i < k) : match getV 0 r with
    | .ok (v, r1) => getAll k l = combA (ns ++ [unzig v]) (getAll (k - (i + 1)) r1)
    | .error x => getAll k l = .error x ∧ 0 < x := by
  obtain ⟨j, hj⟩ : ∃ j, k - i = j + 1 := ⟨k - i - 1, by omega⟩
  have hj2 : k - (i + 1) = j := by omega
  rw [hj] at h
  rw [h, hj2]
  cases hr : getV 0 r with
  | error x =>
    refine ⟨?_, getV_err r 0 x hr⟩
    unfold getAll
    rw [hr]
    rfl
  | ok p =>
    obtain ⟨v, r1⟩ := p
    simp only
    conv => lhs; unfold getAll
    rw [hr]
    simp only
    cases getAll j r1 with
    | error e => rfl
    | ok q => obtain ⟨ms, r2⟩ := q; simp [combA]
theorem getAll_fin {k i : Nat} {ns : List Int} {l r : List UInt8} (h : getAll k l = combA ns (getAll (k - i) r)) (hi : k ≤ i) : getAll k l = .ok (ns, r) := by
  rw [h, show k - i = 0 by omega]
  simp [getAll, combA]
theorem gotA_err {w0 w w' : World} {k : Nat} {res : Except Nat (List Int × List UInt8)} {x : Nat} (h : res = .error x ∧ 0 < x) (hE : Ext w w') : GotA w0 w k res (.returned (.tuple #[.slice none 0 0, .slice none 0 0, .int .i64 x])) w' := by
  rw [h.1]
  exact ⟨hE, rfl, h.2⟩
theorem gotA_ok {w0 w w' : World} {k : Nat} {res : Except Nat (List Int × List UInt8)} {ns : List Int} {r : List UInt8} {A B : Option Addr} {c c2 : Nat} (h : res = .ok (ns, r)) (hE : Ext w w') (hb : Buf w' w.heap.size 3 B k c2 (ns.map (Value.int .i64))) (hi : In8 w0 A r.length c r) : GotA w0 w k res (.returned (.tuple #[.slice B k c2, .slice A r.length c, .int .i64 0])) w' := by
  rw [h]
  exact ⟨hE, A, c, B, c2, rfl, hb, hi⟩
set_option maxRecDepth 100000 in
set_option maxHeartbeats 1000000 in
theorem getInt_any (A : Option Addr) (n c : Nat) (l : List UInt8) (w0 w : World) (h : In8 w0 A n c l) (hw : Ext w0 w) (hle : n ≤ 1000000000) :
    Calls Tryz.prog 120 #[.slice A n c] w fun e w' => GotI w0 w (getV 0 l) e w' := by
  have hg := get_any A n c l w0 w h hw hle
  cases hr : getV 0 l with
  | error k =>
    rw [hr] at hg
    have hk := getV_err l 0 k hr
    have hk0 : ((k : Int) != 0) = true := by simp; omega
    replace hg := hide hg
    clear h hr hk
    go_enter Tryz.func120, Tryz.ntmps120
    go_wp2_with fail
    refine hg.out.mono ?_
    rintro e w1 ⟨hE1, rfl⟩
    go_wp2_with fail
    go_ret3
    exact ⟨hE1, rfl⟩
  | ok p =>
    obtain ⟨v, r⟩ := p
    have hv := getV_lt64 hr
    rw [hr] at hg
    replace hg := hide hg
    have hand : bits .and .u64 (v : Int) 1 = ((v % 2 : Nat) : Int) := by
      rw [show (1 : Int) = ((1 : Nat) : Int) from rfl, u64_and_nat _ _ hv (by omega), Nat.and_one_is_mod]
    obtain ⟨q, hq⟩ : ∃ q, q = v % 2 := ⟨_, rfl⟩
    obtain ⟨d, hd⟩ : ∃ d, d = v / 2 := ⟨_, rfl⟩
    have hnot := i64_not d (by omega)
    have hdv : (v : Int) / 2 = (d : Int) := by omega
    rw [← hq] at hand
    have hu : unzig v = if q = 0 then (d : Int) else -1 - (d : Int) := by unfold unzig; rw [← hq, ← hd]
    have hq2 : q ≤ 1 := by omega
    have hd2 : d < 9223372036854775808 := by omega
    replace hu := hide hu
    clear hq hd h hr
    rcases (show q = 0 ∨ q = 1 by omega) with rfl | rfl
    · have hu2 : unzig v = d := hu.out
      replace hu2 := hide hu2
      clear hu
      go_enter Tryz.func120, Tryz.ntmps120
      go_wp2_with fail
      refine hg.out.mono ?_
      rintro e w1 ⟨hE1, A1, c1, rfl, hin⟩
      go_wp2_with fail
      go_ret3
      exact ⟨hE1, A1, c1, by rw [hu2.out]; rfl, hin⟩
    · have hu2 : unzig v = -1 - (d : Int) := hu.out
      replace hu2 := hide hu2
      clear hu
      go_enter Tryz.func120, Tryz.ntmps120
      go_wp2_with fail
      refine hg.out.mono ?_
      rintro e w1 ⟨hE1, A1, c1, rfl, hin⟩
      go_wp2_with fail
      go_ret3
      exact ⟨hE1, A1, c1, by rw [hu2.out]; rfl, hin⟩
set_option maxRecDepth 100000 in
set_option maxHeartbeats 1000000 in
theorem back_any (v : Nat) (w : World) (hv : v < 18446744073709551616) : Calls Tryz.prog 137 #[.int .u64 v] w fun e w' => e = .returned (.int .i64 (unzig v)) ∧ w' = w := by
  go_enter Tryz.func137, Tryz.ntmps137
  go_wp2_with fail
  all_goals go_ret
  all_goals exact ⟨ret_int (by unfold unzig; simp only [beq_iff_eq, beq_eq_false_iff_ne, ne_eq] at *; split <;> omega), rfl⟩
set_option maxRecDepth 100000 in
set_option maxHeartbeats 1000000 in
theorem rgetInt_any (A : Option Addr) (n c : Nat) (l : List UInt8) (w0 w : World) (h : In8 w0 A n c l) (hw : Ext w0 w) (hle : n ≤ 1000000000) :
    Calls Tryz.prog 122 #[.slice A n c] w fun e w' => GotI w0 w (getV 0 l) e w' := by
  have hg := rget_any A n c l w0 w h hw hle
  cases hr : getV 0 l with
  | error k =>
    rw [hr] at hg
    have hk := getV_err l 0 k hr
    have hk0 : ((k : Int) != 0) = true := by simp; omega
    replace hg := hide hg
    clear h hr hk
    go_enter Tryz.func122, Tryz.ntmps122
    go_wp2_with fail
    refine hg.out.mono ?_
    rintro e w1 ⟨hE1, rfl⟩
    go_wp2_with fail
    go_ret3
    exact ⟨hE1, rfl⟩
  | ok p =>
    obtain ⟨v, r⟩ := p
    have hv := getV_lt64 hr
    rw [hr] at hg
    replace hg := hide hg
    have hb := hide (fun w => back_any v w hv)
    clear h hr
    go_enter Tryz.func122, Tryz.ntmps122
    go_wp2_with fail
    refine hg.out.mono ?_
    rintro e w1 ⟨hE1, A1, c1, rfl, hin⟩
    go_wp2_with fail
    refine (hb.out _).mono ?_
    rintro e w2 ⟨rfl, rfl⟩
    go_wp2_with fail
    go_ret3
    exact ⟨hE1, A1, c1, rfl, hin⟩
end Go.Proofs.YtohphanbnhiodaaGreat

/- 'append' of a string's bytes onto a row of the call's own. -/
namespace Go.Proofs.YtohphanbnhiodaaGreat
open Go.RowKit

theorem strCells_B8 (l : List UInt8) : Lib.strCells ⟨l.toArray⟩ = l.map B8 := rfl
set_option maxRecDepth 100000 in
theorem run_buf_str (w : World) (ty : TypeId) {base : Nat} {A : Option Addr} {n c : Nat} {xs : List Value} (hb : Buf w base 5 A n c xs) (s : List UInt8) (hsz : n + s.length ≤ 4294967296) (hbase : base ≤ w.heap.size) :
    ∃ A1 c1 w', (Builtin.append_ #[34, 9] ty #[.slice A n c, .string ⟨s.toArray⟩]).run Tryz.prog w = .ok (.slice A1 (n + s.length) c1) w' ∧ Buf w' base 5 A1 (n + s.length) c1 (xs ++ s.map B8) ∧ w.grownBy w' (Value.slice A n c).ownBlock ∧
      (A1 = A ∨ A1 = some ⟨w.heap.size, 0, none⟩) := by
  obtain ⟨i, z, hi, hz, h3, h4, h5⟩ := elemB.hi
  have hz8 : i.zero = some (.int .u8 0) := by
    obtain ⟨j, hj, hj2⟩ : ∃ j, Tryz.prog.info? 5 = some j ∧ j.zero = some (.int .u8 0) := ⟨_, rfl, rfl⟩
    rw [hi] at hj
    injection hj with hj
    rw [hj]
    exact hj2
  have ht := Tryz.underlying34
  have hu := Tryz.underlying9
  have hss : (⟨s.toArray⟩ : ByteArray).size = s.length := ByteArray.size_mk_toArray s
  obtain ⟨hx, hnc, hA⟩ := hb
  rcases hA with ⟨rfl, rfl⟩ | ⟨g, cur, rfl, hbg, hg, hs, htk⟩
  · obtain rfl : n = 0 := by omega
    obtain rfl : xs = [] := List.eq_nil_of_length_eq_zero hx
    by_cases hs0 : s = []
    · subst hs0
      refine ⟨none, 0, w, ?_, ⟨rfl, Nat.le_refl _, .inl ⟨rfl, rfl⟩⟩, World.grownBy.refl w _, .inl rfl⟩
      have hf := Lib.run_firstCells_string (P := Tryz.prog) (w := w) 1 ⟨#[]⟩
      rw [show (ByteArray.mk #[]).size = 0 from rfl] at hf
      have e0 : (ByteArray.mk #[]).size = 0 := rfl
      simp [Builtin.append_, run_underlying ht, run_underlying hu, sizeOf, typeInfo, hi, h3, Builtin.lenOf, e0, hf]
    · have hl : 0 < s.length := List.length_pos_iff.2 hs0
      have hr := run_append_nil_string (P := Tryz.prog) w 34 9 ty 5 i (.int .u8 0) ht hu hi hz8 ⟨s.toArray⟩ (by omega) (by omega) (by rw [h4, hss]; omega)
      have hge := grownCap_ge w s.length 0 5
      rw [hss] at hr
      refine ⟨_, _, _, by rw [hr, Nat.zero_add], ⟨by simp, by rw [Nat.zero_add]; exact hge, .inr ⟨w.heap.size, _, rfl, hbase, heap_alloc_new w.drew _, ?_, ?_⟩⟩, ?_, .inr rfl⟩
      · simp only [Array.size_append, size_zeroCells]
        simp [Value.cells]
        omega
      · simp only [Array.toList_append]
        rw [Nat.zero_add, List.take_append_of_le_length (by simp), List.take_of_length_le (by simp)]
        simp
        exact fun b _ => rfl
      · exact (Ext.refl w |>.drew.alloc _) |> fun h => ⟨Below.os h, Below.tape h, Below.output h, Below.size h, fun k hk _ => Below.block h k hk⟩
  · by_cases hroom : n + s.length ≤ c
    · have hr := Lib.run_append_room_string (P := Tryz.prog) (w := w) 34 9 ty 5 i ht hu hi h3 g n c cur hg ⟨s.toArray⟩ (by rw [hss]; exact hroom) (by rw [hss]; omega)
      rw [hss, strCells_B8] at hr
      refine ⟨some ⟨g, 0, none⟩, c, _, hr, ⟨by rw [List.length_append, List.length_map]; omega, hroom, .inr ⟨g, _, rfl, hbg, setRow_heap w g cur _ 5 (0, 0) hg, ?_, ?_⟩⟩, grown_setRow w g _, .inl rfl⟩
      · simp
        omega
      · simp only
        rw [htk]
        rw [List.take_append_of_le_length (by rw [List.length_append, List.length_map]; omega), List.take_of_length_le (by rw [List.length_append, List.length_map]; omega)]
    · have hge := grownCap_ge w (n + s.length) c 5
      have hb2 := nextslicecap_le (need := n + s.length) (old := c) (by omega)
      have holds : ∀ (j : Nat) (v : Value), xs[j]? = some v → w.cell? (Addr.add ⟨g, 0, none⟩ j) = some v := by
        intro j v hv
        rw [Addr.add_lit, Nat.zero_add, cell_of_row w g j cur 5 (0, 0) hg]
        rw [← htk, List.getElem?_take] at hv
        split at hv
        · simpa using hv
        · cases hv
      have hr := Lib.run_append_grow_string (P := Tryz.prog) (w := w) 34 9 ty 5 i (.int .u8 0) ht hu hi hz8 ⟨g, 0, none⟩ n c xs (by rw [h3]; omega) holds ⟨s.toArray⟩ (by rw [hss]; omega) (by rw [hss]; omega) (by rw [hss, h4]; omega)
      rw [hss, strCells_B8] at hr
      refine ⟨some ⟨w.heap.size, 0, none⟩, grownCap w (n + s.length) c 5, _, hr, ⟨by rw [List.length_append, List.length_map]; omega, hge, .inr ⟨w.heap.size, _, rfl, hbase, heap_alloc_new w.drew _, ?_, ?_⟩⟩, ?_, .inr rfl⟩
      · simp only [Array.size_append, List.size_toArray, size_zeroCells, List.length_map]
        simp [Value.cells]
        omega
      · simp only [Array.toList_append]
        rw [List.take_append_of_le_length (by simp; omega), List.take_of_length_le (by simp; omega)]
      · exact (Ext.refl w |>.drew.alloc _) |> fun h => ⟨Below.os h, Below.tape h, Below.output h, Below.size h, fun k hk _ => Below.block h k hk⟩
/-- It, at the operation. -/
theorem wpList_buf_str {ops : Array Oper} {rest : List Oper} {o : Oper} {a : Act} {Q : Exit → Act → World → Prop} {w : World} {base : Nat} {A : Option Addr} {n c : Nat} {xs : List Value} {s : List UInt8} (hb : Buf w base 5 A n c xs) (x y : Operand)
    (ho : o.op = .call { callee := .builtin .append, args := #[x, y], argTypes := #[34, 9] }) (hgd : o.guard = none) (hx : a.eval x = .slice A n c) (hy : a.eval y = .string ⟨s.toArray⟩) (hsz : n + s.length ≤ 4294967296) (hbase : base ≤ w.heap.size)
    (h : ∀ A1 c1 w', Buf w' base 5 A1 (n + s.length) c1 (xs ++ s.map B8) → w.grownBy w' (Value.slice A n c).ownBlock → (∀ w0, Ext w0 w → w0.heap.size ≤ base → Ext w0 w') → wpList Tryz.prog ops Q rest (a.put o.dst (.slice A1 (n + s.length) c1)) w') : wpList Tryz.prog ops Q (o :: rest) a w :=
  wpList_plain hgd fun K hK => by
    obtain ⟨A1, c1, w', hrun, h2, h3, _⟩ := run_buf_str w o.type hb s hsz hbase
    unfold Oper.wp execOp
    simp only [ho, resolve, invoke, builtin, Sem.run_bind, Sem.run_pure, Result.andThen_ok, List.map_toArray, List.map_cons, List.map_nil, hx, hy, hrun]
    refine hK _ _ (h A1 c1 w' h2 h3 (fun w0 hE hw => hE.grown h3 fun k hk => ?_))
    have hbl := hb.base_le
    cases A with
    | none => simp [Value.ownBlock] at hk
    | some b =>
      have := hbl b rfl
      simp [Value.ownBlock] at hk
      omega
end Go.Proofs.YtohphanbnhiodaaGreat

/- A slice of bytes, cut by an index of any kind. -/
namespace Go.Proofs.YtohphanbnhiodaaGreat
open Go.RowKit

set_option maxRecDepth 100000 in
theorem run_headk (kk : IntKind) {n c k : Nat} {A : Option Addr} (h : k ≤ c) (hA : ∀ a, A = some a → a.spot = none) (W : World) :
    (Instr.sliceAt 34 (.slice A n c) none (some (.int kk k)) none).run Tryz.prog W = .ok (.slice A k c) W := by
  have ht := Tryz.underlying34
  have he : Tryz.prog.elem 34 = 5 := by unfold Program.elem; rw [ht]
  have hs : ∀ W : World, (sizeOf 5).run Tryz.prog W = .ok 1 W := fun W => by kernel_rfl
  rw [run_sliceAt_slice W _ _ _ _ _ (by rw [ht, he]), run_slice_h W _ A n c (by rw [ht, he]) kk k (by omega) (by omega), he, hs]
  simp only [Result.andThen_ok]
  congr 1
  unfold sliced
  have : (if c = 0 then A else A.map fun x => x.add (0 * 1)) = A := by
    cases A with
    | none => simp
    | some a =>
      obtain ⟨b, o, sp⟩ := a
      obtain rfl : sp = none := hA _ rfl
      simp [Addr.add_lit]
  rw [this]
  simp
set_option maxRecDepth 100000 in
theorem In8.fromk (kk : IntKind) {w : World} {A : Option Addr} {n c : Nat} {l : List UInt8} (h : In8 w A n c l) {fr : Nat} (hf : fr ≤ n) {z : Int} (hz : z = (fr : Int)) :
    ∃ A' c', (∀ W : World, (Instr.sliceAt 34 (.slice A n c) (some (.int kk z)) none none).run Tryz.prog W = .ok (.slice A' (n - fr) c') W) ∧ In8 w A' (n - fr) c' (l.drop fr) := by
  subst hz
  have ht := Tryz.underlying34
  have he : Tryz.prog.elem 34 = 5 := by unfold Program.elem; rw [ht]
  have hs : ∀ W : World, (sizeOf 5).run Tryz.prog W = .ok 1 W := fun W => by kernel_rfl
  have hrun : ∀ W : World, (Instr.sliceAt 34 (.slice A n c) (some (.int kk fr)) none none).run Tryz.prog W = .ok (sliced A fr n c 1) W := by
    intro W
    rw [run_sliceAt_slice W _ _ _ _ _ (by rw [ht, he]), run_slice_l W _ A n c (by rw [ht, he]) kk fr (by omega) (by omega), he, hs]
    simp only [Result.andThen_ok]
    congr 1
  have hcap := h.cap
  refine ⟨_, _, hrun, by rw [List.length_drop, ← h.len], ?_, by omega, ?_, ?_⟩
  · rcases h.bytes with hb | ⟨g, o, rfl, hb⟩
    · left
      have : l = [] := by simpa using hb
      rw [this]
      simp
    · by_cases hcf : c = fr
      · left
        have := h.len
        rw [List.drop_of_length_le (by omega)]
        rfl
      · refine .inr ⟨g, o + fr, by rw [if_neg hcf]; simp [Addr.add_lit], fun i v hv => ?_⟩
        rw [Nat.add_assoc]
        refine hb (fr + i) v ?_
        rw [List.getElem?_map] at hv ⊢
        rw [List.getElem?_drop] at hv
        exact hv
  · intro hn
    cases A with
    | none => have := h.nil_ rfl; omega
    | some a => split at hn <;> cases hn
  · intro a ha
    cases A with
    | none => split at ha <;> cases ha
    | some b =>
      obtain ⟨h1, h2⟩ := h.at_ b rfl
      obtain ⟨b, o, sp⟩ := b
      obtain rfl : sp = Option.none := h1
      split at ha
      · cases ha; exact ⟨rfl, h2⟩
      · cases ha
        show (Addr.add ⟨b, o, none⟩ (fr * 1)).spot = none ∧ (Addr.add ⟨b, o, none⟩ (fr * 1)).block < w.heap.size
        rw [Addr.add_lit]
        exact ⟨rfl, h2⟩
theorem In8.headk (kk : IntKind) {w : World} {A : Option Addr} {n c : Nat} {l : List UInt8} (h : In8 w A n c l) {k : Nat} (hk : k ≤ n) {z : Int} (hz : z = (k : Int)) :
    (∀ W : World, (Instr.sliceAt 34 (.slice A n c) none (some (.int kk z)) none).run Tryz.prog W = .ok (.slice A k c) W) ∧ In8 w A k c (l.take k) := by
  subst hz
  refine ⟨fun W => run_headk kk (by have := h.cap; omega) (fun a ha => (h.at_ a ha).1) W, by rw [List.length_take, ← h.len]; omega, ?_, by have := h.cap; omega, h.nil_, h.at_⟩
  rcases h.bytes with hb | ⟨g, o, rfl, hb⟩
  · left
    have : l = [] := by simpa using hb
    rw [this]
    simp
  · refine .inr ⟨g, o, rfl, fun i v hv => hb i v ?_⟩
    rw [List.getElem?_map] at hv ⊢
    rw [List.getElem?_take] at hv
    split at hv
    · exact hv
    · cases hv
set_option maxRecDepth 100000 in
theorem In8.subk (kk k2 : IntKind) {w : World} {A : Option Addr} {n c : Nat} {l : List UInt8} (h : In8 w A n c l) {fr k : Nat} (hf : fr + k ≤ n) {z0 z : Int} (hz0 : z0 = (fr : Int)) (hz : z = (fr : Int) + (k : Int)) :
    ∃ A' c', (∀ W : World, (Instr.sliceAt 34 (.slice A n c) (some (.int kk z0)) (some (.int k2 z)) none).run Tryz.prog W = .ok (.slice A' k c') W) ∧ In8 w A' k c' ((l.drop fr).take k) := by
  subst hz0
  subst hz
  have ht := Tryz.underlying34
  have he : Tryz.prog.elem 34 = 5 := by unfold Program.elem; rw [ht]
  have hs : ∀ W : World, (sizeOf 5).run Tryz.prog W = .ok 1 W := fun W => by kernel_rfl
  have hcap := h.cap
  have hrun : ∀ W : World, (Instr.sliceAt 34 (.slice A n c) (some (.int kk fr)) (some (.int k2 ((fr : Int) + (k : Int)))) none).run Tryz.prog W = .ok (sliced A fr (fr + k) c 1) W := by
    intro W
    rw [run_sliceAt_slice W _ _ _ _ _ (by rw [ht, he]), run_slice_lh W _ A n c (by rw [ht, he]) kk k2 fr ((fr : Int) + k) (by omega) (by omega) (by omega), he, hs]
    simp only [Result.andThen_ok]
    congr 1
  unfold sliced at hrun
  rw [Nat.add_sub_cancel_left] at hrun
  refine ⟨_, _, hrun, by rw [List.length_take, List.length_drop, ← h.len]; omega, ?_, by omega, ?_, ?_⟩
  · rcases h.bytes with hb | ⟨g, o, rfl, hb⟩
    · left
      have : l = [] := by simpa using hb
      rw [this]
      simp
    · by_cases hcf : c = fr
      · left
        have : k = 0 := by omega
        subst this
        simp
      · refine .inr ⟨g, o + fr, by rw [if_neg hcf]; simp [Addr.add_lit], fun i v hv => ?_⟩
        rw [Nat.add_assoc]
        refine hb (fr + i) v ?_
        rw [List.getElem?_map] at hv ⊢
        rw [List.getElem?_take] at hv
        split at hv
        · rw [List.getElem?_drop] at hv
          exact hv
        · cases hv
  · intro hn
    cases A with
    | none => have := h.nil_ rfl; omega
    | some a => split at hn <;> cases hn
  · intro a ha
    cases A with
    | none => split at ha <;> cases ha
    | some b =>
      obtain ⟨h1, h2⟩ := h.at_ b rfl
      obtain ⟨b, o, sp⟩ := b
      obtain rfl : sp = Option.none := h1
      split at ha
      · cases ha; exact ⟨rfl, h2⟩
      · cases ha
        show (Addr.add ⟨b, o, none⟩ (fr * 1)).spot = none ∧ (Addr.add ⟨b, o, none⟩ (fr * 1)).block < w.heap.size
        rw [Addr.add_lit]
        exact ⟨rfl, h2⟩
end Go.Proofs.YtohphanbnhiodaaGreat

/- loggia/varint: PutText, GetText; loggiaref02: GetText. -/
namespace Go.Proofs.YtohphanbnhiodaaGreat
open Go.RowKit

theorem run_max2e {P : Program} (ts : Array TypeId) (ty : TypeId) {x y m : Int} (hm : m = max x y) (W : World) : (Builtin.max_ ts ty #[.int .i64 x, .int .i64 y]).run P W = .ok (.int .i64 m) W := by
  simp only [Builtin.max_, List.foldlM, Builtin.max2, Sem.run_bind, Sem.run_pure, Result.andThen_ok]
  subst hm
  congr 2
  split <;> omega
/-- What a text is told to be. -/
def GotT (w0 w : World) (res : Except Nat (List UInt8 × List UInt8)) (e : Ending) (w' : World) : Prop := Ext w w' ∧ match res with
  | .ok (s, r) => ∃ A c, e = .returned (.tuple #[.string ⟨s.toArray⟩, .slice A r.length c, .int .i64 0]) ∧ In8 w0 A r.length c r
  | .error k => e = .returned (.tuple #[.string ⟨#[]⟩, .slice none 0 0, .int .i64 k])
set_option maxRecDepth 100000 in
theorem putText_any (A : Option Addr) (n c : Nat) (l s : List UInt8) (w : World) (hn : n = l.length) (hl : Bs w A l) (hz : A = none → c = 0) (hle : n ≤ 1000000000) (hs : s.length ≤ 1000000000) :
    Calls Tryz.prog 98 #[.slice A n c, .string ⟨s.toArray⟩] w fun e w' => NewB w (l ++ txL s) e w' := by
  have hp := hide (put_any A n c s.length l w hn hl hz hle (by omega))
  have h10 := vb_le10 (n := s.length) (by omega)
  have htx : l ++ txL s = (l ++ vb s.length) ++ s := by unfold txL; simp
  rw [htx]
  obtain ⟨L, hL⟩ : ∃ L, L = l ++ vb s.length := ⟨_, rfl⟩
  have hLl : L.length ≤ 1000000010 := by rw [hL, List.length_append]; omega
  rw [← hL] at hp ⊢
  clear hL htx hl hz hn h10
  go_enter Tryz.func98, Tryz.ntmps98
  go_wp2_with fail
  refine hp.out.mono ?_
  rintro e w1 ⟨A1, c1, rfl, hb1, hE1⟩
  have hsz := hE1.size
  go_wp2_with (at_builtin; refine wpList_buf_str hb1 (.tmp 9) (.tmp 10) rfl rfl rfl rfl (by omega) hsz (fun A2 c2 w2 hb2 hg2 hE2 => ?_))
  go_ret
  exact ⟨A2, c2, ret_slice (by rw [List.length_append]), by rw [List.length_append, List.map_append]; exact hb2, hE2 _ hE1 (Nat.le_refl _)⟩
set_option maxRecDepth 100000 in
set_option maxHeartbeats 1000000 in
theorem getText_any (A : Option Addr) (n c most : Nat) (l : List UInt8) (w0 w : World) (h : In8 w0 A n c l) (hw : Ext w0 w) (hle : n ≤ 1000000000) (hm : most ≤ 1000000000) :
    Calls Tryz.prog 121 #[.slice A n c, .int .i64 most] w fun e w' => GotT w0 w (getT most l) e w' := by
  have hg := get_any A n c l w0 w h hw hle
  have hmax := run_max2e (P := Tryz.prog) #[3, 3] 3 (x := 0) (y := (most : Int)) (m := (most : Int)) (by omega)
  unfold getT
  cases hr : getV 0 l with
  | error k =>
    rw [hr] at hg
    have hk := getV_err l 0 k hr
    have hk0 : ((k : Int) != 0) = true := by simp; omega
    replace hg := hide hg
    clear h hr hk
    go_enter Tryz.func121, Tryz.ntmps121
    go_wp2_with fail
    refine hg.out.mono ?_
    rintro e w1 ⟨hE1, rfl⟩
    go_wp2_with fail
    go_ret3
    exact ⟨hE1, rfl⟩
  | ok p =>
    obtain ⟨v, r⟩ := p
    have hv := getV_lt64 hr
    have hrl : r.length ≤ 1000000000 := by
      obtain ⟨_, _, q, hq, _⟩ := getV_lt l 0 v r hr
      have := h.len
      rw [hq, List.length_append] at this
      omega
    rw [hr] at hg
    replace hg := hide hg
    simp only
    by_cases h1 : most < v
    · rw [if_pos h1]
      have h1' : (most : Int) < v := by omega
      clear h hr
      go_enter Tryz.func121, Tryz.ntmps121
      go_wp2_with fail
      refine hg.out.mono ?_
      rintro e w1 ⟨hE1, A1, c1, rfl, hi1⟩
      go_wp2_with fail
      go_ret3
      exact ⟨hE1, rfl⟩
    · rw [if_neg h1]
      have h1' : ¬ (most : Int) < v := by omega
      by_cases h2 : r.length < v
      · rw [if_pos h2]
        have h2' : (r.length : Int) < v := by omega
        clear h hr
        go_enter Tryz.func121, Tryz.ntmps121
        go_wp2_with fail
        refine hg.out.mono ?_
        rintro e w1 ⟨hE1, A1, c1, rfl, hi1⟩
        go_wp2_with fail
        go_ret3
        exact ⟨hE1, rfl⟩
      · rw [if_neg h2]
        have h2' : ¬ (r.length : Int) < v := by omega
        clear h hr
        go_enter Tryz.func121, Tryz.ntmps121
        go_wp2_with fail
        refine hg.out.mono ?_
        rintro e w1 ⟨hE1, A1, c1, rfl, hi1⟩
        obtain ⟨hh1, hh2⟩ := hi1.headk .u64 (k := v) (by omega) (z := (v : Int)) rfl
        obtain ⟨A2, c2, ht1, ht2⟩ := hi1.fromk .u64 (fr := v) (by omega) (z := (v : Int)) rfl
        have hst : ∀ W, Ext w0 W → (convert 34 9 (.slice A1 v c1)).run Tryz.prog W = .ok (.string ⟨(r.take v).toArray⟩) W := fun W hW => run_str (hh2.bytes.ext hW) v c1 hh2.len
        have hst1 := hst _ (hw.trans hE1).drew
        have hlen : (r.drop v).length = r.length - v := List.length_drop
        obtain ⟨R, hR⟩ : ∃ R, R = r.length - v := ⟨_, rfl⟩
        rw [← hR] at ht1 ht2 hlen
        replace hlen := hide hlen
        replace hR := hide hR
        clear hh2
        go_wp2_with fail
        refine wp_region_text follows (by kernel_rfl) (by kernel_rfl) (fun K hK => ?_)
        go_wp2_with fail
        refine ⟨by kernel_rfl, ?_⟩
        go_wp2_with fail
        go_ret3
        exact ⟨hE1.drew, A2, c2, by rw [hlen.out]; rfl, by rw [hlen.out]; exact ht2⟩
set_option maxRecDepth 100000 in
set_option maxHeartbeats 1000000 in
theorem rgetText_any (A : Option Addr) (n c most : Nat) (l : List UInt8) (w0 w : World) (h : In8 w0 A n c l) (hw : Ext w0 w) (hle : n ≤ 1000000000) (hm : most ≤ 1000000000) :
    Calls Tryz.prog 123 #[.slice A n c, .int .i64 most] w fun e w' => GotT w0 w (getT most l) e w' := by
  have hg := rget_any A n c l w0 w h hw hle
  have hmax := run_max2e (P := Tryz.prog) #[3, 3] 3 (x := 0) (y := (most : Int)) (m := (most : Int)) (by omega)
  unfold getT
  cases hr : getV 0 l with
  | error k =>
    rw [hr] at hg
    have hk := getV_err l 0 k hr
    have hk0 : ((k : Int) != 0) = true := by simp; omega
    replace hg := hide hg
    clear h hr hk
    go_enter Tryz.func123, Tryz.ntmps123
    go_wp2_with fail
    refine hg.out.mono ?_
    rintro e w1 ⟨hE1, rfl⟩
    go_wp2_with fail
    go_ret3
    exact ⟨hE1, rfl⟩
  | ok p =>
    obtain ⟨v, r⟩ := p
    have hv := getV_lt64 hr
    have hrl : r.length ≤ 1000000000 := by
      obtain ⟨_, _, q, hq, _⟩ := getV_lt l 0 v r hr
      have := h.len
      rw [hq, List.length_append] at this
      omega
    rw [hr] at hg
    replace hg := hide hg
    simp only
    by_cases h1 : most < v
    · rw [if_pos h1]
      have h1' : (most : Int) < v := by omega
      clear h hr
      go_enter Tryz.func123, Tryz.ntmps123
      go_wp2_with fail
      refine hg.out.mono ?_
      rintro e w1 ⟨hE1, A1, c1, rfl, hi1⟩
      go_wp2_with fail
      go_ret3
      exact ⟨hE1, rfl⟩
    · rw [if_neg h1]
      have h1' : ¬ (most : Int) < v := by omega
      by_cases h2 : r.length < v
      · rw [if_pos h2]
        have h2' : (r.length : Int) < v := by omega
        clear h hr
        go_enter Tryz.func123, Tryz.ntmps123
        go_wp2_with fail
        refine hg.out.mono ?_
        rintro e w1 ⟨hE1, A1, c1, rfl, hi1⟩
        go_wp2_with fail
        go_ret3
        exact ⟨hE1, rfl⟩
      · rw [if_neg h2]
        have h2' : ¬ (r.length : Int) < v := by omega
        clear h hr
        go_enter Tryz.func123, Tryz.ntmps123
        go_wp2_with fail
        refine hg.out.mono ?_
        rintro e w1 ⟨hE1, A1, c1, rfl, hi1⟩
        obtain ⟨hh1, hh2⟩ := hi1.headk .u64 (k := v) (by omega) (z := (v : Int)) rfl
        obtain ⟨A2, c2, ht1, ht2⟩ := hi1.fromk .u64 (fr := v) (by omega) (z := (v : Int)) rfl
        have hst : ∀ W, Ext w0 W → (convert 34 9 (.slice A1 v c1)).run Tryz.prog W = .ok (.string ⟨(r.take v).toArray⟩) W := fun W hW => run_str (hh2.bytes.ext hW) v c1 hh2.len
        have hst1 := hst _ (hw.trans hE1).drew
        have hlen : (r.drop v).length = r.length - v := List.length_drop
        obtain ⟨R, hR⟩ : ∃ R, R = r.length - v := ⟨_, rfl⟩
        rw [← hR] at ht1 ht2 hlen
        replace hlen := hide hlen
        replace hR := hide hR
        clear hh2
        go_wp2_with fail
        refine wp_region_text follows (by kernel_rfl) (by kernel_rfl) (fun K hK => ?_)
        go_wp2_with fail
        refine ⟨by kernel_rfl, ?_⟩
        go_wp2_with fail
        go_ret3
        exact ⟨hE1.drew, A2, c2, by rw [hlen.out]; rfl, by rw [hlen.out]; exact ht2⟩
end Go.Proofs.YtohphanbnhiodaaGreat

/- Events: loggiaref10.Check, Same. -/
namespace Go.Proofs.YtohphanbnhiodaaGreat
open Go.RowKit

set_option maxRecDepth 100000 in
set_option maxHeartbeats 2000000 in
theorem recheck_any (e : Ev) (A : Option Addr) (c : Nat) (w : World) (h : e.Ok w A) : Calls Tryz.prog 101 #[e.val A c] w fun en w' => en = .returned (.int .i64 (checkE e.fs : Int)) ∧ Ext w w' := by
  obtain ⟨at_, fs⟩ := e
  obtain ⟨hc, hm, hl⟩ := h
  unfold Ev.val
  simp only at hc hm hl ⊢
  obtain ⟨n, hn⟩ : ∃ n, n = fs.length := ⟨_, rfl⟩
  obtain ⟨z, hz⟩ : ∃ z, z = checkE fs := ⟨_, rfl⟩
  have hmany : 16 < n → z = 3 := fun h => by rw [hz]; unfold checkE; rw [if_pos (by omega)]
  have hgo : n ≤ 16 → z = checkF (fs.drop 0) := fun h => by rw [hz]; unfold checkE; rw [if_neg (by omega)]; rfl
  have hnm := fun s W (hs : s.length ≤ 9223372036854775807) => risname_any s W hs
  rw [← hz, ← hn]
  rw [← hn] at hm
  have hEW : Ext w (w.alloc (.cells #[.int .i64 at_, .slice A n c] 89)) := (Ext.refl w).alloc _
  have hrow : Row (w.alloc (.cells #[.int .i64 at_, .slice A n c] 89)) w.heap.size 89 #[.int .i64 at_, .slice A n c] := Row.new w _ _
  replace hn := hide hn
  replace hl := hide hl
  replace hnm := hide hnm
  replace hgo := hide hgo
  clear hz
  by_cases h16 : 16 < n
  · have hz3 := hmany h16
    subst hz3
    clear hmany hrow
    go_enter Tryz.func101, Tryz.ntmps101
    go_wp2_with fail
    go_ret
    exact ⟨rfl, hEW⟩
  · clear hmany
    have hz0 := hgo.out (by omega)
    replace hz0 := hide hz0
    go_enter Tryz.func101, Tryz.ntmps101
    go_wp2_with fail
    obtain ⟨W0, hW0⟩ : ∃ W0, W0 = w.alloc (.cells #[.int .i64 at_, .slice A n c] 89) := ⟨_, rfl⟩
    rw [← hW0] at hEW hrow ⊢
    clear hW0
    go_loopw [3] (fun s3 wr => ∃ i : Nat, s3 = .int .i64 i ∧ i ≤ n ∧ Hid (z = checkF (fs.drop i)) ∧ Hid (Ext W0 wr)) (fun s3 _ => n - (intOf s3).toNat)
    case atStart => exact ⟨0, rfl, by omega, hz0, hide (Ext.refl _)⟩
    case round =>
      obtain ⟨i, rfl, hi, hz, hE⟩ := hrel
      have y1 := (hrow.ext hE.out).cell 1 rfl
      by_cases hin : i < n
      · have hil : i < fs.length := by rw [← hn.out]; exact hin
        obtain ⟨f, hf⟩ : ∃ f, fs[i]? = some f := ⟨_, List.getElem?_eq_getElem hil⟩
        obtain ⟨g, o, rfl, k0, k1⟩ := fcells_at (hc.ext (hEW.trans hE.out)) hf
        obtain ⟨hl1, hl2⟩ := hl.out f (List.mem_of_getElem? hf)
        have hz2 := hz.out
        rw [checkF_drop hf] at hz2
        unfold strV at k0 k1
        obtain ⟨nm, tx⟩ := f
        simp only at k0 k1 hl1 hl2 hz2
        have hnm1 := fun W => hnm.out nm W hl1
        obtain ⟨q, hq⟩ : ∃ q, q = nameL nm := ⟨_, rfl⟩
        rw [← hq] at hnm1 hz2
        have hi0 : (0 : Int) ≤ i := by omega
        have hi1 : (i : Int) < n := by omega
        replace hnm1 := hide hnm1
        replace hz2 := hide hz2
        clear hf hq
        go_wp2_with fail
        refine (hnm1.out _).mono ?_
        rintro e w3 ⟨rfl, rfl⟩
        cases q with
        | false =>
          obtain rfl : z = 100 := by rw [hz2.out]; rfl
          go_wp2_with fail
          go_ret
          exact ⟨rfl, hEW.trans hE.out⟩
        | true =>
          by_cases hlt : 4096 < tx.length
          · obtain rfl : z = 2 := by rw [hz2.out, if_neg (by simp), if_pos hlt]
            go_wp2_with fail
            go_ret
            exact ⟨rfl, hEW.trans hE.out⟩
          · have hz3 := hide (show z = checkF (fs.drop (i + 1)) by rw [hz2.out, if_neg (by simp), if_neg hlt])
            go_wp2_with fail
            go_roundw
            case rel => exact ⟨i + 1, by go_num, by omega, hz3, hE⟩
            case measure => simp [intOf]; omega
      · obtain rfl : z = 0 := by
          have h := hz.out
          rw [List.drop_of_length_le (by rw [← hn.out]; omega)] at h
          exact h
        go_wp2_with fail
        go_ret
        exact ⟨rfl, hEW.trans hE.out⟩
theorem take_one2 {α : Type} {xs : List α} {i : Nat} {x : α} (h : xs[i]? = some x) : xs.take (i + 1) = xs.take i ++ [x] := by
  obtain ⟨hi, rfl⟩ := List.getElem?_eq_some_iff.1 h
  exact List.take_succ_eq_append_getElem hi
set_option maxRecDepth 100000 in
theorem fd_neq (f g : Fd) (W : World) : (binOp .neq 126 (.agg #[.string ⟨f.1.toArray⟩, .string ⟨f.2.toArray⟩]) (.agg #[.string ⟨g.1.toArray⟩, .string ⟨g.2.toArray⟩])).run Tryz.prog W = .ok (.bool (!decide (f = g))) W := by
  rw [run_neq_struct, run_equalIn_agg _ _ _ _ _ (by kernel_rfl) (by kernel_rfl)]
  simp only [Program.fieldsOf, Tryz.underlying126]
  have e1 : ∀ (a b : List UInt8) (W : World), (Op.equalIn 9999 9 (.string ⟨a.toArray⟩) (.string ⟨b.toArray⟩)).run Tryz.prog W = .ok (a == b) W := fun a b W => by
    have h := run_equalIn_string (P := Tryz.prog) (w := W) 9998 9 ⟨a.toArray⟩ ⟨b.toArray⟩ Tryz.underlying9
    rw [h]
    congr 1
    rw [Bool.eq_iff_iff]
    simp
  simp [Op.eqFields, part, e1, go_sem]
  by_cases h1 : f.1 = g.1 <;> by_cases h2 : f.2 = g.2
  all_goals simp [h1, h2, Prod.ext_iff]
def sameE (a b : Ev) : Bool := decide (a.at_ = b.at_ ∧ a.fs = b.fs)
set_option maxRecDepth 100000 in
set_option maxHeartbeats 4000000 in
theorem resame_any (a b : Ev) (A B : Option Addr) (c c2 : Nat) (w : World) (ha : a.Ok w A) (hb : b.Ok w B) : Calls Tryz.prog 85 #[a.val A c, b.val B c2] w fun en w' => en = .returned (.bool (sameE a b)) ∧ Ext w w' := by
  obtain ⟨at1, fs⟩ := a
  obtain ⟨at2, gs⟩ := b
  obtain ⟨hc, hm, _⟩ := ha
  obtain ⟨hd, hm2, _⟩ := hb
  unfold Ev.val sameE
  simp only at hc hm hd hm2 ⊢
  obtain ⟨n, hn⟩ : ∃ n, n = fs.length := ⟨_, rfl⟩
  obtain ⟨m, hmn⟩ : ∃ m, m = gs.length := ⟨_, rfl⟩
  obtain ⟨z, hz⟩ : ∃ z, z = decide (at1 = at2 ∧ fs = gs) := ⟨_, rfl⟩
  have hno1 : at1 ≠ at2 → z = false := fun h => by rw [hz]; exact decide_eq_false fun hh => h hh.1
  have hno2 : n ≠ m → z = false := fun h => by rw [hz]; exact decide_eq_false fun hh => h (by rw [hn, hmn, hh.2])
  have hno3 : fs ≠ gs → z = false := fun h => by rw [hz]; exact decide_eq_false fun hh => h hh.2
  have hyes : at1 = at2 → fs = gs → z = true := fun h1 h2 => by rw [hz]; exact decide_eq_true ⟨h1, h2⟩
  rw [← hz, ← hn, ← hmn]
  rw [← hn] at hm
  rw [← hmn] at hm2
  have hEW : Ext w ((w.alloc (.cells #[.int .i64 at1, .slice A n c] 89)).alloc (.cells #[.int .i64 at2, .slice B m c2] 89)) := ((Ext.refl w).alloc _).alloc _
  have hrow : Row ((w.alloc (.cells #[.int .i64 at1, .slice A n c] 89)).alloc (.cells #[.int .i64 at2, .slice B m c2] 89)) w.heap.size 89 #[.int .i64 at1, .slice A n c] := (Row.new w _ _).alloc _
  have hrow2 : Row ((w.alloc (.cells #[.int .i64 at1, .slice A n c] 89)).alloc (.cells #[.int .i64 at2, .slice B m c2] 89)) (w.heap.size + 1) 89 #[.int .i64 at2, .slice B m c2] := by
    have h := Row.new (w.alloc (.cells #[.int .i64 at1, .slice A n c] 89)) 89 #[.int .i64 at2, .slice B m c2]
    simpa using h
  by_cases hat : at1 = at2
  case neg =>
    obtain rfl := hno1 hat
    have hq : (at1 != at2) = true := bne_iff_ne.2 hat
    clear hno1 hno2 hno3 hyes hz hn hmn hrow hrow2 hc hd hat
    go_enter Tryz.func85, Tryz.ntmps85
    go_wp2_with fail
    go_ret
    exact ⟨rfl, hEW⟩
  case pos =>
    by_cases hnm : n = m
    case neg =>
      obtain rfl := hno2 hnm
      have hq : ((n : Int) != (m : Int)) = true := bne_iff_ne.2 (by omega)
      clear hno1 hno2 hno3 hyes hz hn hmn hrow hrow2 hc hd
      subst hat
      go_enter Tryz.func85, Tryz.ntmps85
      go_wp2_with fail
      go_ret
      exact ⟨rfl, hEW⟩
    case pos =>
      subst hat
      subst hnm
      replace hno3 := hide hno3
      replace hyes := hide (hyes rfl)
      replace hn := hide hn
      replace hmn := hide hmn
      clear hz hno1 hno2
      go_enter Tryz.func85, Tryz.ntmps85
      go_wp2_with fail
      obtain ⟨W0, hW0⟩ : ∃ W0, W0 = (w.alloc (.cells #[.int .i64 at1, .slice A n c] 89)).alloc (.cells #[.int .i64 at1, .slice B n c2] 89) := ⟨_, rfl⟩
      rw [← hW0] at hEW hrow hrow2 ⊢
      clear hW0
      go_loopw [5] (fun s5 wr => ∃ i : Nat, s5 = .int .i64 i ∧ i ≤ n ∧ Hid (fs.take i = gs.take i) ∧ Hid (Ext W0 wr)) (fun s5 _ => n - (intOf s5).toNat)
      case atStart => exact ⟨0, rfl, by omega, hide rfl, hide (Ext.refl _)⟩
      case round =>
        obtain ⟨i, rfl, hi, htk, hE⟩ := hrel
        have y1 : wr.cell? ⟨w.heap.size, 1, none⟩ = some (.slice A n c) := (hrow.ext hE.out).cell 1 rfl
        have y2 : wr.cell? ⟨w.heap.size + 1, 1, none⟩ = some (.slice B n c2) := (hrow2.ext hE.out).cell 1 rfl
        by_cases hin : i < n
        · obtain ⟨f, hf⟩ : ∃ f, fs[i]? = some f := ⟨_, List.getElem?_eq_getElem (by rw [← hn.out]; exact hin)⟩
          obtain ⟨g, hg⟩ : ∃ g, gs[i]? = some g := ⟨_, List.getElem?_eq_getElem (by rw [← hmn.out]; exact hin)⟩
          obtain ⟨b1, o1, rfl, k0, k1⟩ := fcells_at (hc.ext (hEW.trans hE.out)) hf
          obtain ⟨b2, o2, rfl, k2, k3⟩ := fcells_at (hd.ext (hEW.trans hE.out)) hg
          have hne := fd_neq f g
          have hi0 : (0 : Int) ≤ i := by omega
          have hi1 : (i : Int) < n := by omega
          unfold strV at k0 k1 k2 k3
          by_cases hfg : f = g
          · have htk2 := hide (show fs.take (i + 1) = gs.take (i + 1) by rw [take_one2 hf, take_one2 hg, htk.out, hfg])
            rw [decide_eq_true hfg] at hne
            obtain ⟨f1, f2⟩ := f
            obtain ⟨g1, g2⟩ := g
            simp only at k0 k1 k2 k3 hne
            clear hf hg hfg
            go_wp2_with fail
            go_quiet (fail)
            go_wp2_with fail
            go_roundw
            case rel => exact ⟨i + 1, by go_num, by omega, htk2, hide (by first | exact hE.out.drew | exact hE.out.drewN _)⟩
            case measure => simp [intOf]; omega
          · obtain rfl : z = false := hno3.out (fun h => hfg (by rw [h, hg] at hf; exact (Option.some.inj hf).symm))
            rw [decide_eq_false hfg] at hne
            obtain ⟨f1, f2⟩ := f
            obtain ⟨g1, g2⟩ := g
            simp only at k0 k1 k2 k3 hne
            clear hf hg hfg
            go_wp2_with fail
            go_quiet (fail)
            go_wp2_with fail
            go_ret
            exact ⟨rfl, by first | exact hEW.trans hE.out.drew | exact hEW.trans (hE.out.drewN _)⟩
        · obtain rfl : z = true := hyes.out (by
            have h := htk.out
            rw [List.take_of_length_le (by rw [← hn.out]; omega), List.take_of_length_le (by rw [← hmn.out]; omega)] at h
            exact h)
          go_wp2_with fail
          go_ret
          exact ⟨rfl, hEW.trans hE.out⟩
end Go.Proofs.YtohphanbnhiodaaGreat

/- loggia/event and loggiaref10: Size, CheckBatch. -/
namespace Go.Proofs.YtohphanbnhiodaaGreat
open Go.RowKit

theorem sizeFs_take {fs : List Fd} {i : Nat} {f : Fd} (h : fs[i]? = some f) : sizeFs (fs.take (i + 1)) = sizeFs (fs.take i) + (f.1.length + f.2.length) := by
  unfold sizeFs
  rw [take_one2 h, List.map_append, List.sum_append]
  simp [sizeF]
theorem sizeFs_le : ∀ {fs : List Fd}, (∀ f ∈ fs, f.1.length ≤ 32 ∧ f.2.length ≤ 4096) → sizeFs fs ≤ 5000 * fs.length
  | [], _ => by simp [sizeFs]
  | f :: fs, h => by
    have h1 := sizeFs_le (fs := fs) fun x hx => h x (by simp [hx])
    have hf := h f (by simp)
    have h5 : sizeFs (f :: fs) = f.1.length + f.2.length + sizeFs fs := by unfold sizeFs; rw [List.map_cons, List.sum_cons]; rfl
    rw [h5, List.length_cons]
    omega
set_option maxRecDepth 100000 in
set_option maxHeartbeats 1000000 in
theorem esize_any (e : Ev) (A : Option Addr) (c : Nat) (w : World) (h : e.Ok w A) (hk : checkE e.fs = 0) : Calls Tryz.prog 96 #[e.val A c] w fun en w' => en = .returned (.int .i64 (sizeE e : Int)) ∧ Ext w w' := by
  obtain ⟨h16, hfl⟩ := checkE_fs hk
  obtain ⟨at_, fs⟩ := e
  obtain ⟨hc, _, _⟩ := h
  unfold Ev.val sizeE
  simp only at hc h16 hfl ⊢
  obtain ⟨n, hn⟩ : ∃ n, n = fs.length := ⟨_, rfl⟩
  rw [← hn] at h16 ⊢
  replace hn := hide hn
  replace hfl := hide hfl
  obtain ⟨W, hW⟩ : ∃ W, W = w.alloc (.cells #[.int .i64 at_, .slice A n c] 89) := ⟨_, rfl⟩
  have hEW : Ext w W := by rw [hW]; exact (Ext.refl w).alloc _
  have hr : Row W w.heap.size 89 #[.int .i64 at_, .slice A n c] := by rw [hW]; exact Row.new w _ _
  go_enter Tryz.func96, Tryz.ntmps96
  go_wp2_with fail
  rw [← hW]
  clear hW
  go_loopw [3, 9] (fun s3 s9 wr => ∃ (i k : Nat), s9 = .int .i64 (i : Int) ∧ s3 = .int .i64 (k : Int) ∧ i ≤ n ∧ k ≤ 16 + 5000 * i ∧ Hid (k = 16 + sizeFs (fs.take i)) ∧ Hid (Ext W wr)) (fun _ s9 _ => n - (intOf s9).toNat)
  case atStart => exact ⟨0, 16, rfl, rfl, by omega, by omega, hide (by simp [sizeFs]), hide (Ext.refl W)⟩
  case round =>
    obtain ⟨i, k, rfl, rfl, hi, hk, hks, hE⟩ := hrel
    by_cases hin : i < n
    · obtain ⟨f, hf⟩ : ∃ f, fs[i]? = some f := ⟨_, List.getElem?_eq_getElem (by rw [← hn.out]; exact hin)⟩
      obtain ⟨g, o, rfl, k0, k1⟩ := fcells_at ((hc.ext hEW).ext hE.out) hf
      have hl1 := hfl.out f (List.mem_of_getElem? hf)
      have htk := sizeFs_take hf
      obtain ⟨nm, tx⟩ := f
      unfold strV at k0 k1
      simp only at k0 k1 hl1 htk
      obtain ⟨hl1, hl2⟩ := hl1
      have hi0 : (0 : Int) ≤ i := by omega
      have hi1 : (i : Int) < n := by omega
      replace htk := hide htk
      have hE2 := hide (hE.out.alloc (.cells #[.string ⟨nm.toArray⟩, .string ⟨tx.toArray⟩] 126))
      clear hf
      go_wp2_with fail
      go_roundw
      case rel => exact ⟨i + 1, k + (nm.length + tx.length), by go_num, by go_num, by omega, by omega, hide (by rw [htk.out, hks.out]; omega), hE2⟩
      case measure => simp [intOf]; omega
    · have hall : fs.take i = fs := List.take_of_length_le (by rw [← hn.out]; omega)
      rw [hall] at hks
      have hkv : (k : Int) = ((16 + sizeFs fs : Nat) : Int) := by rw [hks.out]
      replace hkv := hide hkv
      go_wp2_with fail
      go_ret
      exact ⟨by rw [← hkv.out]; rfl, hEW.trans hE.out⟩
set_option maxRecDepth 100000 in
set_option maxHeartbeats 1000000 in
theorem resize_any (e : Ev) (A : Option Addr) (c : Nat) (w : World) (h : e.Ok w A) (hk : checkE e.fs = 0) : Calls Tryz.prog 102 #[e.val A c] w fun en w' => en = .returned (.int .i64 (sizeE e : Int)) ∧ Ext w w' := by
  obtain ⟨h16, hfl⟩ := checkE_fs hk
  obtain ⟨at_, fs⟩ := e
  obtain ⟨hc, _, _⟩ := h
  unfold Ev.val sizeE
  simp only at hc h16 hfl ⊢
  obtain ⟨n, hn⟩ : ∃ n, n = fs.length := ⟨_, rfl⟩
  rw [← hn] at h16 ⊢
  replace hn := hide hn
  replace hfl := hide hfl
  obtain ⟨W, hW⟩ : ∃ W, W = w.alloc (.cells #[.int .i64 at_, .slice A n c] 89) := ⟨_, rfl⟩
  have hEW : Ext w W := by rw [hW]; exact (Ext.refl w).alloc _
  have hr : Row W w.heap.size 89 #[.int .i64 at_, .slice A n c] := by rw [hW]; exact Row.new w _ _
  go_enter Tryz.func102, Tryz.ntmps102
  go_wp2_with fail
  rw [← hW]
  clear hW
  go_loopw [3, 4] (fun s3 s4 wr => ∃ (i k : Nat), s4 = .int .i64 (i : Int) ∧ s3 = .int .i64 (k : Int) ∧ i ≤ n ∧ k ≤ 16 + 5000 * i ∧ Hid (k = 16 + sizeFs (fs.take i)) ∧ Hid (Ext W wr)) (fun _ s4 _ => n - (intOf s4).toNat)
  case atStart => exact ⟨0, 16, rfl, rfl, by omega, by omega, hide (by simp [sizeFs]), hide (Ext.refl W)⟩
  case round =>
    obtain ⟨i, k, rfl, rfl, hi, hk, hks, hE⟩ := hrel
    have y1 : wr.cell? ⟨w.heap.size, 1, none⟩ = some (.slice A n c) := (hr.ext hE.out).cell 1 rfl
    by_cases hin : i < n
    · obtain ⟨f, hf⟩ : ∃ f, fs[i]? = some f := ⟨_, List.getElem?_eq_getElem (by rw [← hn.out]; exact hin)⟩
      obtain ⟨g, o, rfl, k0, k1⟩ := fcells_at ((hc.ext hEW).ext hE.out) hf
      have hl1 := hfl.out f (List.mem_of_getElem? hf)
      have htk := sizeFs_take hf
      obtain ⟨nm, tx⟩ := f
      unfold strV at k0 k1
      simp only at k0 k1 hl1 htk
      obtain ⟨hl1, hl2⟩ := hl1
      have hi0 : (0 : Int) ≤ i := by omega
      have hi1 : (i : Int) < n := by omega
      replace htk := hide htk
      have hE2 := hide hE.out.drew
      clear hf
      go_wp2_with fail
      refine wp_region_text follows (by kernel_rfl) (by kernel_rfl) (fun K hK => ?_)
      go_wp2_with fail
      refine ⟨by kernel_rfl, ?_⟩
      go_wp2_with fail
      go_roundw
      case rel => exact ⟨i + 1, k + nm.length + tx.length, by go_num, by go_num, by omega, by omega, hide (by rw [htk.out, hks.out]; omega), hE2⟩
      case measure => simp [intOf]; omega
    · have hall : fs.take i = fs := List.take_of_length_le (by rw [← hn.out]; omega)
      rw [hall] at hks
      have hkv : (k : Int) = ((16 + sizeFs fs : Nat) : Int) := by rw [hks.out]
      replace hkv := hide hkv
      go_wp2_with fail
      go_ret
      exact ⟨by rw [← hkv.out]; rfl, hEW.trans hE.out⟩
end Go.Proofs.YtohphanbnhiodaaGreat

