/- Lines of a text, and the events that they tell of, plainly. -/
import Derived.Test.YtpajpdkliohepaaDoorLaB
import Derived.Lib.SplitLaws
namespace Go.Proofs.YtpajpdkliohepaaDoor
open Go.RowKit

/-- A text's lines. -/
def linesL : List UInt8 → List (List UInt8)
  | [] => [[]]
  | c :: r => if c = 10 then [] :: linesL r else match linesL r with
    | [] => [[c]]
    | s :: ss => (c :: s) :: ss
theorem linesL_none : ∀ {s : List UInt8}, 10 ∉ s → linesL s = [s]
  | [], _ => rfl
  | c :: r, h => by
    unfold linesL
    rw [if_neg (fun hc => h (by rw [hc]; simp)), linesL_none (fun hm => h (List.mem_cons_of_mem _ hm))]
theorem linesL_app : ∀ {a b : List UInt8}, 10 ∉ a → linesL (a ++ 10 :: b) = a :: linesL b
  | [], b, _ => by
    show linesL (10 :: b) = _
    conv => lhs; unfold linesL
    rw [if_pos rfl]
  | c :: a, b, h => by
    show linesL (c :: (a ++ 10 :: b)) = _
    conv => lhs; unfold linesL
    rw [if_neg (fun hc => h (by rw [hc]; simp)), linesL_app (fun hm => h (List.mem_cons_of_mem _ hm))]
theorem linesL_len : ∀ s : List UInt8, (linesL s).length = s.count 10 + 1
  | [] => rfl
  | c :: r => by
    unfold linesL
    have ih := linesL_len r
    by_cases hc : c = 10
    · rw [if_pos hc, hc, List.length_cons, ih, List.count_cons_self]
    · rw [if_neg hc, List.count_cons_of_ne (by simpa using hc)]
      cases hl : linesL r with
      | nil => rw [hl] at ih; simp at ih
      | cons s ss => rw [hl] at ih; simp at ih ⊢; omega
theorem idx_one (s : List UInt8) (c : UInt8) : (c ∉ s ∧ Lib.index s [c] = -1) ∨ ∃ a b, s = a ++ c :: b ∧ c ∉ a ∧ Lib.index s [c] = (a.length : Nat) := by
  rcases Lib.index_spec s [c] with ⟨h1, h2⟩ | ⟨i, h1, h2, h3, h4⟩
  · refine .inl ⟨fun hc => ?_, h1⟩
    obtain ⟨i, hi, rfl⟩ := List.mem_iff_getElem.1 hc
    have := h2 i (by omega)
    rw [occ_one.2 (List.getElem?_eq_getElem hi)] at this
    cases this
  · have h5 := occ_one.1 h3
    obtain ⟨hi, hc⟩ := List.getElem?_eq_some_iff.1 h5
    refine .inr ⟨s.take i, s.drop (i + 1), ?_, fun hm => ?_, by rw [h1, List.length_take]; omega⟩
    · rw [← hc]
      rw [← List.drop_eq_getElem_cons hi]
      exact (List.take_append_drop i s).symm
    · obtain ⟨j, hj, hjc⟩ := List.mem_iff_getElem.1 hm
      rw [List.length_take] at hj
      rw [List.getElem_take] at hjc
      have := h4 j (by omega)
      rw [occ_one.2 (by rw [List.getElem?_eq_getElem (by omega), hjc])] at this
      cases this
theorem split_lines : ∀ (n : Nat) (s : List UInt8), s.length ≤ n → Lib.splitK [10] 0 (Lib.count s [10]) s = linesL s
  | n, s, hn => by
    rcases idx_one s 10 with ⟨h1, h2⟩ | ⟨a, b, h1, h2, h3⟩
    · rw [Lib.count_one, List.count_eq_zero.2 h1, linesL_none h1]
      rfl
    · have hc : Lib.count s [10] = Lib.count b [10] + 1 := by
        rw [Lib.count_one, Lib.count_one, h1, List.count_append, List.count_cons_self, List.count_eq_zero.2 h2]
        omega
      rw [hc]
      unfold Lib.splitK
      have hne : ¬ (Lib.index s [10] == -1) = true := by
        rw [beq_iff_eq, h3]
        omega
      rw [if_neg hne, h3, h1, linesL_app h2]
      have e1 : ((a.length : Nat) : Int).toNat + 0 = a.length := by omega
      have e2 : ((a.length : Nat) : Int).toNat + [(10 : UInt8)].length = a.length + 1 := by simp
      rw [e1, e2, List.take_left' rfl, show (a ++ 10 :: b).drop (a.length + 1) = b by rw [← List.drop_drop, List.drop_left' rfl]; rfl]
      match n, hn with
      | 0, hn => rw [h1] at hn; simp at hn
      | n + 1, hn => rw [split_lines n b (by rw [h1] at hn; simp at hn; omega)]
open Classical in
/-- The event that a line tells of. -/
noncomputable def evOf (line : List UInt8) : Option Ev := if h : ∃ e : Ev, I64ok' e.at_ ∧ checkE e.fs = 0 ∧ fmtL e.at_ e.fs = line then some h.choose else none
theorem evOf_some {line : List UInt8} {e : Ev} (h : I64ok' e.at_ ∧ checkE e.fs = 0 ∧ fmtL e.at_ e.fs = line) : evOf line = some e := by
  unfold evOf
  have hh : ∃ e : Ev, I64ok' e.at_ ∧ checkE e.fs = 0 ∧ fmtL e.at_ e.fs = line := ⟨e, h⟩
  rw [dif_pos hh]
  have h2 := hh.choose_spec
  exact congrArg some (IsP.unique (.inl ⟨rfl, h2⟩) (.inl ⟨rfl, h⟩)).1
theorem evOf_is {line : List UInt8} {e : Ev} (h : evOf line = some e) : I64ok' e.at_ ∧ checkE e.fs = 0 ∧ fmtL e.at_ e.fs = line := by
  unfold evOf at h
  split at h
  · rename_i hh
    have := hh.choose_spec
    injection h with h
    rw [h] at this
    exact this
  · cases h
theorem evOf_none {line : List UInt8} (h : NoEv line) : evOf line = none := by
  unfold evOf
  rw [dif_neg]
  rintro ⟨e, h1, h2, h3⟩
  exact h _ _ h1 h2 h3
theorem IsP.evOf {line : List UInt8} {e : Ev} {k : Int} (h : IsP line e k) : (k = 0 ∧ evOf line = some e) ∨ (k = 310 ∧ evOf line = none) := by
  rcases h with ⟨rfl, h⟩ | ⟨rfl, _, h⟩
  · exact .inl ⟨rfl, evOf_some h⟩
  · exact .inr ⟨rfl, evOf_none h⟩
/-- A line that is passed by. -/
def skipL (s : List UInt8) : Bool := s.isEmpty || s.head? == some 35
/-- The events of lines, or the number of the first one that is none's. -/
noncomputable def readR (n : Nat) : List (List UInt8) → Except Nat (List Ev)
  | [] => .ok []
  | s :: ss => if skipL s = true then readR (n + 1) ss else match evOf s with
    | none => .error n
    | some e => match readR (n + 1) ss with
      | .ok es => .ok (e :: es)
      | .error m => .error m
/-- What has been read ahead of it. -/
def ahead (done : List Ev) : Except Nat (List Ev) → Except Nat (List Ev)
  | .ok es => .ok (done ++ es)
  | .error m => .error m
theorem ahead_nil (x : Except Nat (List Ev)) : ahead [] x = x := by cases x <;> rfl
theorem readR_skip {n : Nat} {s : List UInt8} {ss : List (List UInt8)} (h : skipL s = true) : readR n (s :: ss) = readR (n + 1) ss := by
  conv => lhs; unfold readR
  rw [if_pos h]
theorem readR_none {n : Nat} {s : List UInt8} {ss : List (List UInt8)} (h : skipL s = false) (he : evOf s = none) : readR n (s :: ss) = .error n := by
  unfold readR
  rw [if_neg (by rw [h]; simp), he]
theorem readR_some {n : Nat} {s : List UInt8} {ss : List (List UInt8)} {e : Ev} (done : List Ev) (h : skipL s = false) (he : evOf s = some e) : ahead done (readR n (s :: ss)) = ahead (done ++ [e]) (readR (n + 1) ss) := by
  conv => lhs; unfold readR
  rw [if_neg (by rw [h]; simp), he]
  simp only
  cases readR (n + 1) ss with
  | ok es => simp [ahead]
  | error m => rfl
/-- The lines of events, and the first code that is none of them's. -/
def allK : List Ev → Nat
  | [] => 0
  | e :: es => if checkE e.fs = 0 then allK es else checkE e.fs
def lineL (e : Ev) : List UInt8 := fmtL e.at_ e.fs ++ [10]
def allT (es : List Ev) : List UInt8 := es.flatMap lineL
/-- What All answers. -/
def allR (es : List Ev) : List UInt8 × Nat := if allK es = 0 then (if 1048576 < (allT es).length then ([], 2) else (allT es, 0)) else ([], allK es)
theorem allK_zero : ∀ {es : List Ev}, (∀ e ∈ es, checkE e.fs = 0) → allK es = 0
  | [], _ => rfl
  | e :: es, h => by
    unfold allK
    rw [if_pos (h e (by simp))]
    exact allK_zero fun x hx => h x (by simp [hx])
theorem allK_at : ∀ {es : List Ev} {i : Nat} {e : Ev}, es[i]? = some e → (∀ x ∈ es.take i, checkE x.fs = 0) → checkE e.fs ≠ 0 → allK es = checkE e.fs
  | [], i, e, h, _, _ => by simp at h
  | x :: es, 0, e, h, _, hne => by
    obtain rfl : x = e := by simpa using h
    unfold allK
    rw [if_neg hne]
  | x :: es, i + 1, e, h, hk, hne => by
    unfold allK
    rw [if_pos (hk x (by simp))]
    exact allK_at (by simpa using h) (fun y hy => hk y (by simp [hy])) hne
theorem allT_take {es : List Ev} {i : Nat} {e : Ev} (h : es[i]? = some e) : allT (es.take (i + 1)) = allT (es.take i) ++ fmtL e.at_ e.fs ++ [10] := by
  unfold allT
  rw [take_one2 h, List.flatMap_append]
  simp [lineL]
end Go.Proofs.YtpajpdkliohepaaDoor
