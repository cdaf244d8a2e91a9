/- loggia/api: a Manifest that came in. -/
import Derived.Test.YtijnomopcpgikaaDoorCome
import Derived.Deep.Slices
import Derived.Deep.Fields
import Derived.ChangeSame
namespace Go.Proofs.YtijnomopcpgikaaDoor
open Go.ChangeShapes Go.WideShapes Go.Deep Go.RowKit

def J64 (z : Int) : Value := .int .i64 z
/-- A partition, plainly. -/
structure Pt where
  id : Int
  st : Int
  lo : Int
  hi : Int
  fi : Int
  la : Int
  n : Int
deriving DecidableEq
def Pt.cells (p : Pt) : List Value := [.int .i64 p.id, .int .i64 p.st, .int .i64 p.lo, .int .i64 p.hi, .int .i64 p.fi, .int .i64 p.la, .int .i64 p.n]
def I64ok (z : Int) : Prop := -9223372036854775808 ≤ z ∧ z ≤ 9223372036854775807
structure Pt.Ok (p : Pt) : Prop where
  id : I64ok p.id
  st : I64ok p.st
  lo : I64ok p.lo
  hi : I64ok p.hi
  fi : I64ok p.fi
  la : I64ok p.la
  n : I64ok p.n
def pcells (ps : List Pt) : List Value := ps.flatMap Pt.cells
theorem pcells_len (R : List Pt) : (pcells R).length = R.length * 7 := by
  unfold pcells
  induction R with
  | nil => rfl
  | cons r R ih => rw [List.flatMap_cons, List.length_append, ih, List.length_cons]; simp [Pt.cells]; omega
theorem pcells_get : ∀ (R : List Pt) (i : Nat) (r : Pt) (k : Nat), R[i]? = some r → k < 7 → (pcells R)[i * 7 + k]? = r.cells[k]?
  | [], i, r, k, h, _ => by simp at h
  | x :: R, 0, r, k, h, hk => by
    obtain rfl : x = r := by simpa using h
    unfold pcells
    rw [List.flatMap_cons, List.getElem?_append_left (by simp [Pt.cells]; omega), Nat.zero_mul, Nat.zero_add]
  | x :: R, i + 1, r, k, h, hk => by
    have h' : R[i]? = some r := by simpa using h
    have ih := pcells_get R i r k h' hk
    unfold pcells at ih ⊢
    rw [List.flatMap_cons, List.getElem?_append_right (by simp [Pt.cells]; omega)]
    have : (i + 1) * 7 + k - x.cells.length = i * 7 + k := by
      have : x.cells.length = 7 := rfl
      omega
    rw [this]
    exact ih
/-- A row of partitions lies below base. -/
structure PS (w : World) (base : Nat) (A : Option Addr) (n c : Nat) (ps : List Pt) : Prop where
  len : n = ps.length
  cells : Cells w A (pcells ps)
  away : ps ≠ [] → ∀ a, A = some a → a.block < base ∧ a.spot = none
  cap : n ≤ c
  most : n ≤ 9223372036854775807
  ok : ∀ p ∈ ps, p.Ok
theorem PS.chg {w w1 : World} {base : Nat} {A : Option Addr} {n c : Nat} {ps : List Pt} {S : Nat → Prop} (h : PS w base A n c ps) (hc : Chg S w w1) (hs : ∀ k, k < base → ¬ S k) : PS w1 base A n c ps := by
  refine ⟨h.len, ?_, h.away, h.cap, h.most, h.ok⟩
  by_cases hz : ps = []
  · subst hz; exact .inl rfl
  · exact hc.cells h.cells fun a ha => hs _ (h.away hz a ha).1
theorem PS.ext {w w1 : World} {base : Nat} {A : Option Addr} {n c : Nat} {ps : List Pt} (h : PS w base A n c ps) (hE : Ext w w1) : PS w1 base A n c ps := h.chg (Chg.of_ext hE (fun _ => False)) fun _ _ h => h
theorem pcells_take (k : Nat) : ∀ ps : List Pt, pcells (ps.take k) = (pcells ps).take (k * 7) := by
  induction k with
  | zero => intro ps; rw [List.take_zero, Nat.zero_mul, List.take_zero]; rfl
  | succ k ih =>
    intro ps
    cases ps with
    | nil => rw [List.take_nil]; unfold pcells; rw [List.flatMap_nil, List.take_nil]
    | cons p ps =>
      have h1 : (k + 1) * 7 = p.cells.length + k * 7 := by
        have : p.cells.length = 7 := rfl
        omega
      show pcells (p :: ps.take k) = _
      unfold pcells
      rw [List.flatMap_cons, List.flatMap_cons, h1, List.take_length_add_append]
      have := ih ps
      unfold pcells at this
      rw [this]
theorem PS.take {w : World} {base : Nat} {A : Option Addr} {n c : Nat} {ps : List Pt} (h : PS w base A n c ps) (k : Nat) (hk : k ≤ n) : PS w base A k c (ps.take k) := by
  refine ⟨by rw [List.length_take, ← h.len]; omega, ?_, fun hz => h.away fun e => hz (by rw [e, List.take_nil]), by have := h.cap; omega, by have := h.most; omega, fun z hz => h.ok z (List.mem_of_mem_take hz)⟩
  rw [pcells_take]
  rcases h.cells with h0 | ⟨g, o, hA, hc⟩
  · exact .inl (by rw [h0, List.take_nil])
  · refine .inr ⟨g, o, hA, fun i v hv => ?_⟩
    rw [List.getElem?_take] at hv
    split at hv
    · exact hc i v hv
    · cases hv
/-- Where a partition's cells lie. -/
theorem PS.at_ {w : World} {base : Nat} {A : Option Addr} {n c : Nat} {ps : List Pt} (h : PS w base A n c ps) {i : Nat} (hi : i < n) : ∃ g s p, A = some ⟨g, s, none⟩ ∧ ps[i]? = some p ∧ p.Ok ∧ w.cell? ⟨g, s + i * 7, none⟩ = some (.int .i64 p.id) ∧ w.cell? ⟨g, s + i * 7 + 1, none⟩ = some (.int .i64 p.st) ∧ w.cell? ⟨g, s + i * 7 + 2, none⟩ = some (.int .i64 p.lo) ∧
    w.cell? ⟨g, s + i * 7 + 3, none⟩ = some (.int .i64 p.hi) ∧ w.cell? ⟨g, s + i * 7 + 4, none⟩ = some (.int .i64 p.fi) ∧ w.cell? ⟨g, s + i * 7 + 5, none⟩ = some (.int .i64 p.la) ∧ w.cell? ⟨g, s + i * 7 + 6, none⟩ = some (.int .i64 p.n) := by
  have hl : i < ps.length := by rw [← h.len]; exact hi
  obtain ⟨g, s, hA, hc⟩ := h.cells.at_ (by rw [pcells_len]; omega)
  have hr : ps[i]? = some ps[i] := List.getElem?_eq_getElem hl
  refine ⟨g, s, ps[i], hA, hr, h.ok _ (List.getElem_mem hl), ?_, ?_, ?_, ?_, ?_, ?_, ?_⟩
  · exact hc (i * 7 + 0) _ (by rw [pcells_get ps i _ 0 hr (by omega)]; rfl)
  · rw [Nat.add_assoc]; exact hc (i * 7 + 1) _ (by rw [pcells_get ps i _ 1 hr (by omega)]; rfl)
  · rw [Nat.add_assoc]; exact hc (i * 7 + 2) _ (by rw [pcells_get ps i _ 2 hr (by omega)]; rfl)
  · rw [Nat.add_assoc]; exact hc (i * 7 + 3) _ (by rw [pcells_get ps i _ 3 hr (by omega)]; rfl)
  · rw [Nat.add_assoc]; exact hc (i * 7 + 4) _ (by rw [pcells_get ps i _ 4 hr (by omega)]; rfl)
  · rw [Nat.add_assoc]; exact hc (i * 7 + 5) _ (by rw [pcells_get ps i _ 5 hr (by omega)]; rfl)
  · rw [Nat.add_assoc]; exact hc (i * 7 + 6) _ (by rw [pcells_get ps i _ 6 hr (by omega)]; rfl)
/-- A manifest, plainly. -/
structure Mf where
  ps : List Pt
  floor : Int
  done : Int
  log : Int
  next : Int
  now : Int
def Mf.val (m : Mf) (A : Option Addr) (c : Nat) : Value := .agg #[.slice A m.ps.length c, .int .i64 m.floor, .int .i64 m.done, .int .i64 m.log, .int .i64 m.next, .int .i64 m.now]
structure Mf.Ok (m : Mf) (w : World) (base : Nat) (A : Option Addr) (c : Nat) : Prop where
  parts : PS w base A m.ps.length c m.ps
  floor : I64ok m.floor
  done : I64ok m.done
  log : I64ok m.log
  next : I64ok m.next
  now : I64ok m.now
theorem Mf.Ok.ext {m : Mf} {w w1 : World} {base : Nat} {A : Option Addr} {c : Nat} (h : m.Ok w base A c) (hE : Ext w w1) : m.Ok w1 base A c := ⟨h.parts.ext hE, h.floor, h.done, h.log, h.next, h.now⟩
def Mf.few (m : Mf) : Mf := { m with ps := m.ps.take 40 }
theorem Mf.Ok.few {m : Mf} {w : World} {base : Nat} {A : Option Addr} {c : Nat} (h : m.Ok w base A c) : m.few.Ok w base A c := by
  refine ⟨?_, h.floor, h.done, h.log, h.next, h.now⟩
  show PS w base A (m.ps.take 40).length c (m.ps.take 40)
  by_cases h40 : m.ps.length ≤ 40
  · rw [List.take_of_length_le h40]
    exact h.parts
  · have := h.parts.take 40 (by omega)
    rw [List.length_take, Nat.min_eq_left (by omega)]
    exact this
end Go.Proofs.YtijnomopcpgikaaDoor
