/- Events, plainly; a row of fields. -/
import Derived.Test.YtpajpdkliohepaaDoorLib
import Derived.Test.YtpajpdkliohepaaDoorInS
namespace Go.Proofs.YtpajpdkliohepaaDoor
open Go.RowKit

/-- A field: name, text. -/
abbrev Fd := List UInt8 × List UInt8
def Fd.cells (f : Fd) : List Value := [strV f.1, strV f.2]
def fcells (fs : List Fd) : List Value := fs.flatMap Fd.cells
theorem fcells_len : ∀ fs : List Fd, (fcells fs).length = fs.length * 2
  | [] => rfl
  | f :: fs => by
    have := fcells_len fs
    unfold fcells at this ⊢
    rw [List.flatMap_cons, List.length_append, this, List.length_cons]
    simp [Fd.cells]
    omega
theorem fcells_get : ∀ (fs : List Fd) (i : Nat) (f : Fd) (k : Nat), fs[i]? = some f → k < 2 → (fcells fs)[i * 2 + k]? = f.cells[k]?
  | [], i, f, k, h, _ => by simp at h
  | x :: fs, 0, f, k, h, hk => by
    obtain rfl : x = f := by simpa using h
    unfold fcells
    rw [List.flatMap_cons, List.getElem?_append_left (by simp [Fd.cells]; omega), Nat.zero_mul, Nat.zero_add]
  | x :: fs, i + 1, f, k, h, hk => by
    have h' : fs[i]? = some f := by simpa using h
    have ih := fcells_get fs i f k h' hk
    unfold fcells at ih ⊢
    rw [List.flatMap_cons, List.getElem?_append_right (by simp [Fd.cells]; omega)]
    have : (i + 1) * 2 + k - (Fd.cells x).length = i * 2 + k := by
      have : (Fd.cells x).length = 2 := rfl
      omega
    rw [this]
    exact ih
theorem fcells_snoc (fs : List Fd) (f : Fd) : fcells (fs ++ [f]) = fcells fs ++ f.cells := by
  unfold fcells
  rw [List.flatMap_append]
  simp
theorem fcells_take (k : Nat) : ∀ fs : List Fd, fcells (fs.take k) = (fcells fs).take (k * 2) := by
  induction k with
  | zero => intro fs; rw [List.take_zero, Nat.zero_mul, List.take_zero]; rfl
  | succ k ih =>
    intro fs
    cases fs with
    | nil => rw [List.take_nil]; unfold fcells; rw [List.flatMap_nil, List.take_nil]
    | cons f fs =>
      have h1 : (k + 1) * 2 = (Fd.cells f).length + k * 2 := by
        have : (Fd.cells f).length = 2 := rfl
        omega
      show fcells (f :: fs.take k) = _
      unfold fcells
      rw [List.flatMap_cons, List.flatMap_cons, h1, List.take_length_add_append]
      have := ih fs
      unfold fcells at this
      rw [this]
/-- Where a field's cells lie. -/
theorem fcells_at {w : World} {A : Option Addr} {fs : List Fd} (h : Cells w A (fcells fs)) {i : Nat} {f : Fd} (hf : fs[i]? = some f) : ∃ g o, A = some ⟨g, o, none⟩ ∧ w.cell? ⟨g, o + i * 2, none⟩ = some (strV f.1) ∧ w.cell? ⟨g, o + i * 2 + 1, none⟩ = some (strV f.2) := by
  have hi := (List.getElem?_eq_some_iff.1 hf).1
  obtain ⟨g, o, hA, hc⟩ := h.at_ (by rw [fcells_len]; omega)
  refine ⟨g, o, hA, ?_, ?_⟩
  · exact hc (i * 2 + 0) _ (by rw [fcells_get fs i f 0 hf (by omega)]; rfl)
  · rw [Nat.add_assoc]
    exact hc (i * 2 + 1) _ (by rw [fcells_get fs i f 1 hf (by omega)]; rfl)
/-- An event: time, fields. -/
structure Ev where
  at_ : Int
  fs : List Fd
def Ev.val (e : Ev) (A : Option Addr) (c : Nat) : Value := .agg #[.int .i64 e.at_, .slice A e.fs.length c]
/-- May a byte be in a name? -/
def nameC (c : UInt8) : Bool := decide (c.toNat = 95 ∨ (48 ≤ c.toNat ∧ c.toNat ≤ 57) ∨ (97 ≤ c.toNat ∧ c.toNat ≤ 122))
def nameL (s : List UInt8) : Bool := s.all nameC && decide (1 ≤ s.length ∧ s.length ≤ 32)
/-- What is told of fields, one behind the other. -/
def checkF : List Fd → Nat
  | [] => 0
  | f :: fs => if nameL f.1 = false then 100 else if 4096 < f.2.length then 2 else checkF fs
def checkE (fs : List Fd) : Nat := if 16 < fs.length then 3 else checkF fs
theorem checkF_drop {fs : List Fd} {i : Nat} {f : Fd} (h : fs[i]? = some f) : checkF (fs.drop i) = if nameL f.1 = false then 100 else if 4096 < f.2.length then 2 else checkF (fs.drop (i + 1)) := by
  obtain ⟨hi, rfl⟩ := List.getElem?_eq_some_iff.1 h
  rw [List.drop_eq_getElem_cons hi]
  rfl
end Go.Proofs.YtpajpdkliohepaaDoor
