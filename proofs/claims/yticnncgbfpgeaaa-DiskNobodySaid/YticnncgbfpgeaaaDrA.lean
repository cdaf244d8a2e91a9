/- loggiaref06: how a document's disk lies in memory; find. -/
import Derived.Test.YticnncgbfpgeaaaDkZ
namespace Go.Proofs.Yticnncgbfpgeaaa
open Go.RowKit Go.Maps

set_option maxRecDepth 100000 in
theorem elemF : Elem Try.prog 34 53 3 48 := ⟨Try.underlying34, ⟨_, _, rfl, rfl, rfl, rfl, rfl⟩, by omega, by omega⟩
/-- A file of the document's: its name, its bytes, how many are durable, where they lie. -/
structure RE where
  name : List UInt8
  b : List UInt8
  sure : Nat
  A : Option Addr
  c : Nat
def RE.cells (r : RE) : List Value := [str r.name, .slice r.A r.b.length r.c, .int .i64 r.sure]
def RE.agg (r : RE) : Value := .agg #[str r.name, .slice r.A r.b.length r.c, .int .i64 r.sure]
def RE.pl (r : RE) : PF := (r.name, r.b, r.sure)
def rcells (R : List RE) : List Value := R.flatMap RE.cells
theorem rcells_len (R : List RE) : (rcells R).length = R.length * 3 := by
  unfold rcells
  induction R with
  | nil => rfl
  | cons r R ih => rw [List.flatMap_cons, List.length_append, ih, List.length_cons]; simp [RE.cells]; omega
theorem rcells_get : ∀ (R : List RE) (i : Nat) (r : RE) (k : Nat), R[i]? = some r → k < 3 → (rcells R)[i * 3 + k]? = r.cells[k]?
  | [], i, r, k, h, _ => by simp at h
  | x :: R, 0, r, k, h, hk => by
    obtain rfl : x = r := by simpa using h
    unfold rcells
    rw [List.flatMap_cons, List.getElem?_append_left (by simp [RE.cells]; omega), Nat.zero_mul, Nat.zero_add]
  | x :: R, i + 1, r, k, h, hk => by
    have h' : R[i]? = some r := by simpa using h
    have ih := rcells_get R i r k h' hk
    unfold rcells at ih ⊢
    rw [List.flatMap_cons, List.getElem?_append_right (by simp [RE.cells]; omega)]
    have : (i + 1) * 3 + k - x.cells.length = i * 3 + k := by
      have : x.cells.length = 3 := rfl
      omega
    rw [this]
    exact ih
theorem rcells_append (R S : List RE) : rcells (R ++ S) = rcells R ++ rcells S := by unfold rcells; rw [List.flatMap_append]
/-- A file's bytes lie, away from the blocks N. -/
structure ROk (w : World) (N : Nat → Prop) (r : RE) : Prop where
  bytes : Bs w r.A r.b
  cap : r.b.length ≤ r.c
  nil : r.A = none → r.c = 0
  away : ∀ a, r.A = some a → a.block < w.heap.size ∧ ¬ N a.block ∧ a.spot = none
  sure : r.sure ≤ r.b.length
  name : r.name.length ≤ 9223372036854775807
  len : r.b.length ≤ 67108864
/-- A row of files lies, away from the blocks N. -/
structure RS (w : World) (N : Nat → Prop) (A : Option Addr) (n c : Nat) (R : List RE) : Prop where
  len : n = R.length
  cells : Cells w A (rcells R)
  away : ∀ a, A = some a → a.block < w.heap.size ∧ ¬ N a.block
  cap : n ≤ c
  many : n ≤ 1024
  ok : ∀ r ∈ R, ROk w N r
section
variable {w w1 : World} {N N' S : Nat → Prop} {A : Option Addr} {n c : Nat} {R : List RE} {r : RE}
theorem ROk.chg (h : ROk w N r) (hc : Chg S w w1) (hs : ∀ k, k < w.heap.size → S k → N k) (hn : ∀ k, k < w.heap.size → N' k → N k) : ROk w1 N' r :=
  ⟨hc.cells h.bytes fun a ha hh => (h.away a ha).2.1 (hs _ (h.away a ha).1 hh), h.cap, h.nil, fun a ha => ⟨Nat.lt_of_lt_of_le (h.away a ha).1 hc.size, fun hh => (h.away a ha).2.1 (hn _ (h.away a ha).1 hh), (h.away a ha).2.2⟩, h.sure, h.name, h.len⟩
theorem RS.chg (h : RS w N A n c R) (hc : Chg S w w1) (hs : ∀ k, k < w.heap.size → S k → N k) (hn : ∀ k, k < w.heap.size → N' k → N k) : RS w1 N' A n c R :=
  ⟨h.len, hc.cells h.cells fun a ha hh => (h.away a ha).2 (hs _ (h.away a ha).1 hh), fun a ha => ⟨Nat.lt_of_lt_of_le (h.away a ha).1 hc.size, fun hh => (h.away a ha).2 (hn _ (h.away a ha).1 hh)⟩, h.cap, h.many, fun r hr => (h.ok r hr).chg hc hs hn⟩
theorem ROk.ext (h : ROk w N r) (he : Ext w w1) : ROk w1 N r := h.chg (Chg.of_ext he (fun _ => False)) (fun _ _ h => h.elim) (fun _ _ h => h)
theorem RS.ext (h : RS w N A n c R) (he : Ext w w1) : RS w1 N A n c R := h.chg (Chg.of_ext he (fun _ => False)) (fun _ _ h => h.elim) (fun _ _ h => h)
theorem RS.nil (w : World) (N : Nat → Prop) : RS w N none 0 0 [] := ⟨rfl, Cells.nil _ _, nofun, by omega, by omega, by simp⟩
/-- Where a file's cells lie. -/
theorem RS.at_ (h : RS w N A n c R) {i : Nat} (hi : i < n) : ∃ g o r, A = some ⟨g, o, none⟩ ∧ R[i]? = some r ∧ w.cell? ⟨g, o + i * 3, none⟩ = some (str r.name) ∧ w.cell? ⟨g, o + i * 3 + 1, none⟩ = some (.slice r.A r.b.length r.c) ∧ w.cell? ⟨g, o + i * 3 + 2, none⟩ = some (.int .i64 r.sure) := by
  have hl : i < R.length := by rw [← h.len]; exact hi
  obtain ⟨g, o, hA, hc⟩ := h.cells.at_ (by rw [rcells_len]; omega)
  have hr : R[i]? = some R[i] := List.getElem?_eq_getElem hl
  refine ⟨g, o, R[i], hA, hr, ?_, ?_, ?_⟩
  · have := hc (i * 3 + 0) (str R[i].name) (by rw [rcells_get R i _ 0 hr (by omega)]; rfl)
    exact this
  · have := hc (i * 3 + 1) (.slice R[i].A R[i].b.length R[i].c) (by rw [rcells_get R i _ 1 hr (by omega)]; rfl)
    rw [← Nat.add_assoc] at this
    exact this
  · have := hc (i * 3 + 2) (.int .i64 R[i].sure) (by rw [rcells_get R i _ 2 hr (by omega)]; rfl)
    rw [← Nat.add_assoc] at this
    exact this
end
/-- The document's disk as a value. -/
def rdisk (A : Option Addr) (n c q a : Nat) (st : Bool) : Value := .agg #[.slice A n c, .int .i64 q, .int .i64 a, .bool st]
/-- Where a file of a name is. -/
def rfind (R : List RE) (s : List UInt8) : Option Nat := R.findIdx? fun r => decide (r.name = s)
theorem rfind_some {R : List RE} {s : List UInt8} {i : Nat} {r : RE} (h : R[i]? = some r) (hs : r.name = s) (hno : ∀ j r, j < i → R[j]? = some r → r.name ≠ s) : rfind R s = some i := by
  obtain ⟨hi, hr⟩ := List.getElem?_eq_some_iff.1 h
  unfold rfind
  rw [List.findIdx?_eq_some_iff_getElem]
  refine ⟨hi, by rw [hr]; exact decide_eq_true hs, fun j hj hp => hno j _ hj (List.getElem?_eq_getElem (by omega)) (of_decide_eq_true hp)⟩
theorem rfind_none {R : List RE} {s : List UInt8} (hno : ∀ j r, j < R.length → R[j]? = some r → r.name ≠ s) : rfind R s = none := by
  unfold rfind
  rw [List.findIdx?_eq_none_iff]
  intro r hr
  obtain ⟨j, hj⟩ := List.getElem?_of_mem hr
  exact decide_eq_false (hno j r (List.getElem?_eq_some_iff.1 hj).1 hj)
set_option maxRecDepth 100000 in
set_option maxHeartbeats 1000000 in
theorem rfind_any (N : Nat → Prop) (A : Option Addr) (n c q a : Nat) (st : Bool) (R : List RE) (s : List UInt8) (w : World) (h : RS w N A n c R) :
    Calls Try.prog 55 #[rdisk A n c q a st, str s] w fun e w' => e = .returned (.tuple #[.int .i64 ((rfind R s).getD 0 : Nat), .bool (rfind R s).isSome]) ∧ Ext w w' := by
  unfold rdisk str
  have hlen := h.len
  have hmany := h.many
  replace hlen := hide hlen
  go_enter Try.func55, Try.ntmps55
  go_wp2_with fail
  obtain ⟨W, hW⟩ : ∃ W, W = w.alloc (.cells #[.slice A n c, .int .i64 q, .int .i64 a, .bool st] 36) := ⟨_, rfl⟩
  rw [← hW]
  have hE : Ext w W := by rw [hW]; exact (Ext.refl w).alloc _
  have c0 : W.cell? ⟨w.heap.size, 0, none⟩ = some (.slice A n c) := by rw [hW]; exact (Row.new w _ _).cell 0 rfl
  have hR := h.ext hE
  replace hW := hide hW
  go_loopw [6] (fun s6 wr => ∃ i : Nat, s6 = .int .i64 i ∧ i ≤ n ∧ Hid (∀ j r, j < i → R[j]? = some r → r.name ≠ s) ∧ wr = W) (fun s6 _ => n - (intOf s6).toNat)
  case atStart => exact ⟨0, rfl, by omega, hide (fun j r h => by omega), rfl⟩
  case round =>
    obtain ⟨i, rfl, hi, hno, rfl⟩ := hrel
    by_cases hin : i < n
    · obtain ⟨g, o, r, rfl, hr, k0, k1, k2⟩ := hR.at_ hin
      unfold str at k0
      by_cases hs : r.name = s
      · have hf := rfind_some hr hs hno.out
        have hb : (r.name == s) = true := by rw [hs]; exact beq_self_eq_true s
        replace hf := hide hf
        replace hr := hide hr
        replace hs := hide hs
        go_wp2_with fail
        go_ret2
        rw [hf.out]
        exact ⟨rfl, hE⟩
      · have hb : (r.name == s) = false := beq_eq_false_iff_ne.2 hs
        have hno2 : Hid (∀ j r, j < i + 1 → R[j]? = some r → r.name ≠ s) := hide (by
          intro j x hj hx
          by_cases hji : j = i
          · subst hji
            rw [hr] at hx
            cases hx
            exact hs
          · exact hno.out j x (by omega) hx)
        replace hr := hide hr
        go_wp2_with fail
        go_roundw
        case rel => exact ⟨i + 1, by go_num, by omega, hno2, trivial⟩
        case measure => simp [intOf]; omega
    · have hf : rfind R s = none := rfind_none (by rw [← hlen.out]; exact fun j r hj hr => hno.out j r (by omega) hr)
      replace hf := hide hf
      go_wp2_with fail
      go_ret2
      rw [hf.out]
      exact ⟨rfl, hE⟩
end Go.Proofs.Yticnncgbfpgeaaa
