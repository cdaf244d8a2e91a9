/- Problems: rows of them; how many there are of each kind, plainly. -/
import Derived.Test.YtpfmjagbjdkdcaaGreatDoorInR
import Derived.Laws.Rows
set_option linter.unusedSimpArgs false
set_option linter.unusedVariables false
namespace Go.Proofs.YtpfmjagbjdkdcaaGreatDoor
open Go.RowKit Go.ChangeShapes Go.WideShapes Go.Deep

/-- A problem, plainly. -/
structure Pb where
  f : List UInt8
  k : Int
def Pb.cells (p : Pb) : List Value := [.string ⟨p.f.toArray⟩, .int .i64 p.k]
def pcells (ps : List Pb) : List Value := ps.flatMap Pb.cells
theorem pcells_at (R : List Pb) (i : Nat) (r : Pb) (k : Nat) (h : R[i]? = some r) (hk : k < 2) : (pcells R)[i * 2 + k]? = r.cells[k]? := flat_get_of (cellsA := Pb.cells) (k := 2) (fun _ => rfl) R i r k h hk
structure PS (w : World) (A : Option Addr) (n : Nat) (ps : List Pb) : Prop where
  len : n = ps.length
  cells : Cells w A (pcells ps)
theorem PS.ext {w w1 : World} {A : Option Addr} {n : Nat} {ps : List Pb} (h : PS w A n ps) (hE : Ext w w1) : PS w1 A n ps := ⟨h.len, h.cells.ext hE⟩
def PbAt (w : World) (g o : Nat) (p : Pb) : Prop := w.cell? ⟨g, o, none⟩ = some (.string ⟨p.f.toArray⟩) ∧ w.cell? ⟨g, o + 1, none⟩ = some (.int .i64 p.k)
theorem PS.at_ {w : World} {A : Option Addr} {n : Nat} {ps : List Pb} (h : PS w A n ps) {i : Nat} (hi : i < n) : ∃ g s p, A = some ⟨g, s, none⟩ ∧ ps[i]? = some p ∧ ∀ W, Ext w W → PbAt W g (s + i * 2) p := by
  obtain ⟨p, hp⟩ : ∃ p, ps[i]? = some p := ⟨_, List.getElem?_eq_getElem (by rw [← h.len]; exact hi)⟩
  have h0 := pcells_at ps i p 0 hp (by omega)
  obtain ⟨g, s, hA, hc⟩ := h.cells.at_ (by have := (List.getElem?_eq_some_iff.1 h0).1; omega)
  have q : ∀ k v W, Ext w W → p.cells[k]? = some v → W.cell? ⟨g, s + i * 2 + k, none⟩ = some v := fun k v W hE hv => by
    rw [Nat.add_assoc]
    exact hE.cell (hc _ _ ((pcells_at ps i p k hp (List.getElem?_eq_some_iff.1 hv).1).trans hv))
  exact ⟨g, s, p, hA, hp, fun W hE => ⟨q 0 _ W hE rfl, q 1 _ W hE rfl⟩⟩
def I64b (z : Int) : Prop := -9223372036854775808 ≤ z ∧ z ≤ 9223372036854775807
/-- A kind; 0: none of them. -/
def kcl (k : Int) : Nat := if k < 1 ∨ 8 < k then 0 else k.toNat
theorem kcl_lt (k : Int) : kcl k < 9 := by unfold kcl; split <;> omega
def kct (l : List Pb) (j : Nat) : Nat := l.countP fun p => kcl p.k == j
def kA (l : List Pb) : Array Value := ((List.range 9).map fun j => Value.int .i64 (kct l j : Nat)).toArray
theorem kct_le (l : List Pb) (j : Nat) : kct l j ≤ l.length := List.countP_le_length
theorem kA_get (l : List Pb) {j : Nat} (h : j < 9) : (kA l)[j]? = some (.int .i64 (kct l j : Nat)) := by unfold kA; simp [h]
theorem kct_snoc (l : List Pb) (p : Pb) (j : Nat) : kct (l ++ [p]) j = kct l j + if kcl p.k = j then 1 else 0 := by
  unfold kct
  rw [List.countP_append]
  congr 1
  by_cases h : kcl p.k = j <;> simp [h]
theorem kA_put (l : List Pb) (p : Pb) : (kA l).setIfInBounds (kcl p.k) (.int .i64 ((kct l (kcl p.k) + 1 : Nat) : Int)) = kA (l ++ [p]) := by
  apply Array.ext_getElem?
  intro j
  rw [Array.getElem?_setIfInBounds]
  by_cases hj : j < 9
  · rw [kA_get _ hj, kA_get _ hj, kct_snoc]
    have hs : (kA l).size = 9 := by unfold kA; simp
    by_cases h : kcl p.k = j
    · subst h
      rw [if_pos rfl, if_pos (by omega), if_pos rfl]
    · rw [if_neg h, if_neg h, Nat.add_zero]
  · have h1 : ∀ l, (kA l)[j]? = none := fun l => by unfold kA; simp; omega
    have := kcl_lt p.k
    rw [h1, h1, if_neg (by omega)]
theorem kA_put' (l : List Pb) (p : Pb) : (kA l).setIfInBounds (kcl p.k) (.int .i64 ((kct l (kcl p.k) : Nat) + 1)) = kA (l ++ [p]) := kA_put l p
theorem take_at {l : List Pb} {i : Nat} {p : Pb} (h : l[i]? = some p) : l.take (i + 1) = l.take i ++ [p] := by
  rw [List.take_add_one, h]
  rfl
theorem results_rowK {fn : Func} {p : Tmp} {ty : TypeId} {P : Program} (h : fn.results = #[.cell p ty]) (tmps : Array Value) (w : World) (g : Nat) (cs : Array Value)
    (hp : tmps.getD p undef = .pointer (some ⟨g, 0, none⟩)) (hl : (loadVar ty ⟨g, 0, none⟩).run P w = .ok (.agg cs) w) :
    (results fn tmps).run P w = .ok (.agg cs) w := by
  rw [Array.getD_eq_getD_getElem?] at hp
  simp only [results, h]
  simp [Sem.run_bind, Result.andThen, hp, asAddr, hl]
set_option maxRecDepth 100000 in
theorem kA_zero : (#[.int .i64 0, .int .i64 0, .int .i64 0, .int .i64 0, .int .i64 0, .int .i64 0, .int .i64 0, .int .i64 0, .int .i64 0] : Array Value) = kA [] := by kernel_rfl
section
variable {H : Type} {enc : TypeId × Value → H} {w : World} {base : Nat} {spare : Nat → Bool} {held : Bool}
set_option maxRecDepth 100000 in
theorem in_pb {fuel : Nat} {cs : List Value} {y : DataW H × List MemPlace} (hcl : cs.length = 2) (h : DataW.trod enc Tryz.prog w base spare held fuel 40 cs = some y) :
    ∃ p : Pb, I64b p.k ∧ p.cells = cs := by
  obtain ⟨n, one⟩ := in_fields Tryz.underlying40 (by kernel_rfl) (show _ = #[9, 3] by kernel_rfl) h
  match cs, hcl with
  | [v0, v1], _ =>
    obtain ⟨z, hz⟩ := one 0 _ v0 rfl rfl
    obtain ⟨s, e, _, _⟩ := DataW.trod_string Tryz.underlying9 hz
    obtain ⟨z1, hz1⟩ := one 1 _ v1 rfl rfl
    obtain ⟨k, e1, _, hw1⟩ := DataW.trod_int Tryz.underlying3 hz1
    obtain rfl : v0 = .string s := by simpa using e
    obtain rfl : v1 = .int .i64 k := by simpa using e1
    exact ⟨⟨s.data.toList, k⟩, wf_i64 hw1, rfl⟩
set_option maxRecDepth 100000 in
theorem in_pbs {fuel : Nat} {v : Value} {x : DataW H × List MemPlace} (h : DataW.trod enc Tryz.prog w base spare held fuel 22 [v] = some x) :
    ∃ (A : Option Addr) (c : Nat) (ps : List Pb), v = .slice A ps.length c ∧ PS w A ps.length ps ∧ ps.length ≤ c ∧ ps.length ≤ 9223372036854775807 ∧ ∀ p ∈ ps, I64b p.k := by
  obtain ⟨A, c, l, rfl, hc, hs, hlc, hl, hx⟩ := in_row_of (cellsA := Pb.cells) (Q := fun p : Pb => I64b p.k) Tryz.underlying22 (by kernel_rfl) (by omega : 0 < 2) (fun _ => rfl) (fun _ _ _ a b => in_pb a b) h
  exact ⟨A, c, l, rfl, ⟨rfl, hc⟩, hlc, hl, hx⟩
end
end Go.Proofs.YtpfmjagbjdkdcaaGreatDoor
