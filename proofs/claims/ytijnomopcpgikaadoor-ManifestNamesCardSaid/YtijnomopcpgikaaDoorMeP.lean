/- A manifest's bytes, plainly. -/
import Derived.Test.YtijnomopcpgikaaDoorMfC
import Derived.Test.YtijnomopcpgikaaDoorVaP
import Derived.Test.YtijnomopcpgikaaDoorCrP
namespace Go.Proofs.YtijnomopcpgikaaDoor
open Go.RowKit

def encB (m : Mf) : List UInt8 := [76, 71, 77, 49] ++ (vall [m.floor, m.done, m.log, m.next, m.now] ++ (vb m.ps.length ++ m.ps.flatMap fun p => vall [p.id, p.st, p.lo, p.hi, p.fi, p.la]))
def le4 (s : Nat) : List UInt8 := [UInt8.ofNat (s % 256), UInt8.ofNat (s / 256 % 256), UInt8.ofNat (s / 65536 % 256), UInt8.ofNat (s / 16777216 % 256)]
def encM (m : Mf) : List UInt8 := encB m ++ le4 (cnext 0 (encB m))
theorem le4_inj {a b : Nat} (ha : a < 4294967296) (hb : b < 4294967296) (h : le4 a = le4 b) : a = b := by
  unfold le4 at h
  injection h with h1 h
  injection h with h2 h
  injection h with h3 h
  injection h with h4 _
  have e : ∀ x y : Nat, x < 256 → y < 256 → UInt8.ofNat x = UInt8.ofNat y → x = y := fun x y hx hy h => by
    have := congrArg UInt8.toNat h
    rw [UInt8.toNat_ofNat', UInt8.toNat_ofNat'] at this
    omega
  have e1 := e _ _ (by omega) (by omega) h1
  have e2 := e _ _ (by omega) (by omega) h2
  have e3 := e _ _ (by omega) (by omega) h3
  have e4 := e _ _ (by omega) (by omega) h4
  omega
def mkPt (l : List Int) : Pt := ⟨l.getD 0 0, l.getD 1 0, l.getD 2 0, l.getD 3 0, l.getD 4 0, l.getD 5 0, wrap64 (wrap64 (l.getD 5 0 - l.getD 4 0) + 1)⟩
def getPts : Nat → List UInt8 → Except Nat (List Pt × List UInt8)
  | 0, l => .ok ([], l)
  | k + 1, l => match getAll 6 l with
    | .error e => .error e
    | .ok (ns, r) => match getPts k r with
      | .error e => .error e
      | .ok (ps, r') => .ok (mkPt ns :: ps, r')
def mkMf (l : List Int) (ps : List Pt) : Mf := ⟨ps, l.getD 0 0, l.getD 1 0, l.getD 2 0, l.getD 3 0, l.getD 4 0⟩
def getM (l : List UInt8) : Option Mf := match getAll 5 l with
  | .error _ => none
  | .ok (ns, r) => match getV 0 r with
    | .error _ => none
    | .ok (n, r) => if 512 < n then none else match getPts n r with
      | .error _ => none
      | .ok (ps, _) => some (mkMf ns ps)
/-- All its numbers are int's. -/
structure Mf.In (m : Mf) : Prop where
  parts : ∀ p ∈ m.ps, p.Ok
  floor : I64ok m.floor
  done : I64ok m.done
  log : I64ok m.log
  next : I64ok m.next
  now : I64ok m.now
theorem Mf.Ok.in_ {m : Mf} {w : World} {base : Nat} {A : Option Addr} {c : Nat} (h : m.Ok w base A c) : m.In := ⟨h.parts.ok, h.floor, h.done, h.log, h.next, h.now⟩
theorem goP_part : ∀ {ps : List Pt} {id last : Int}, goP ps id last ≠ none → ∀ p ∈ ps, partP p = true
  | [], _, _, _, p, hp => by cases hp
  | q :: ps, id, last, h, p, hp => by
    unfold goP at h
    by_cases hc : partP q = true ∧ id < q.id ∧ last < q.fi
    · rw [if_pos hc] at h
      rcases List.mem_cons.1 hp with rfl | hp
      · exact hc.1
      · exact goP_part h p hp
    · rw [if_neg hc] at h
      exact absurd rfl h
theorem checkP_zero {m : Mf} (h : checkP m = 0) : m.ps.length ≤ 512 ∧ ∀ p ∈ m.ps, partP p = true := by
  unfold checkP at h
  by_cases h5 : 512 < m.ps.length
  · rw [if_pos h5] at h; cases h
  · rw [if_neg h5] at h
    refine ⟨by omega, ?_⟩
    cases hi : isP m with
    | false => rw [hi] at h; cases h
    | true =>
      unfold isP at hi
      cases hg : goP m.ps 0 0 with
      | none => rw [hg] at hi; cases hi
      | some x => exact goP_part (by rw [hg]; simp)
theorem mkPt_of {p : Pt} (h : partP p = true) : mkPt [p.id, p.st, p.lo, p.hi, p.fi, p.la] = p := by
  unfold partP at h
  simp only [Bool.and_eq_true, decide_eq_true_eq] at h
  obtain ⟨⟨⟨⟨⟨⟨_, _⟩, _⟩, h1⟩, h2⟩, h3⟩, h4⟩ := h
  unfold mkPt
  simp only [List.getD_cons_zero, List.getD_cons_succ]
  rw [IntWalk.wrap64_in (p.la - p.fi) ⟨by omega, by omega⟩, IntWalk.wrap64_in _ ⟨by omega, by omega⟩, ← h4]
theorem getPts_put : ∀ (ps : List Pt) (r : List UInt8), (∀ p ∈ ps, p.Ok) → (∀ p ∈ ps, partP p = true) → getPts ps.length ((ps.flatMap fun p => vall [p.id, p.st, p.lo, p.hi, p.fi, p.la]) ++ r) = .ok (ps, r)
  | [], r, _, _ => rfl
  | p :: ps, r, h, hp => by
    have ho := h p (List.mem_cons_self ..)
    have ih := getPts_put ps r (fun q hq => h q (List.mem_cons_of_mem _ hq)) fun q hq => hp q (List.mem_cons_of_mem _ hq)
    have hn : ∀ n ∈ [p.id, p.st, p.lo, p.hi, p.fi, p.la], -9223372036854775808 ≤ n ∧ n ≤ 9223372036854775807 := by
      intro n hn
      simp only [List.mem_cons, List.not_mem_nil, or_false] at hn
      rcases hn with rfl | rfl | rfl | rfl | rfl | rfl
      · exact ho.id
      · exact ho.st
      · exact ho.lo
      · exact ho.hi
      · exact ho.fi
      · exact ho.la
    have e := getAll_put [p.id, p.st, p.lo, p.hi, p.fi, p.la] ((ps.flatMap fun p => vall [p.id, p.st, p.lo, p.hi, p.fi, p.la]) ++ r) hn
    rw [List.length_cons, List.flatMap_cons, List.append_assoc]
    unfold getPts
    rw [show (6 : Nat) = [p.id, p.st, p.lo, p.hi, p.fi, p.la].length from rfl, e]
    simp only [ih, mkPt_of (hp p (List.mem_cons_self ..))]
theorem getM_put {m : Mf} (hi : m.In) (hc : checkP m = 0) (r : List UInt8) : getM ((encB m).drop 4 ++ r) = some m := by
  obtain ⟨h5, hp⟩ := checkP_zero hc
  have hd : (encB m).drop 4 = vall [m.floor, m.done, m.log, m.next, m.now] ++ (vb m.ps.length ++ m.ps.flatMap fun p => vall [p.id, p.st, p.lo, p.hi, p.fi, p.la]) := by
    unfold encB
    rw [List.drop_append_of_le_length (by simp), List.drop_of_length_le (by simp), List.nil_append]
  rw [hd, List.append_assoc, List.append_assoc]
  have hn : ∀ n ∈ [m.floor, m.done, m.log, m.next, m.now], -9223372036854775808 ≤ n ∧ n ≤ 9223372036854775807 := by
    intro n hn
    simp only [List.mem_cons, List.not_mem_nil, or_false] at hn
    rcases hn with rfl | rfl | rfl | rfl | rfl
    · exact hi.floor
    · exact hi.done
    · exact hi.log
    · exact hi.next
    · exact hi.now
  have e1 := getAll_put [m.floor, m.done, m.log, m.next, m.now] (vb m.ps.length ++ ((m.ps.flatMap fun p => vall [p.id, p.st, p.lo, p.hi, p.fi, p.la]) ++ r)) hn
  have e2 := getV_put (n := m.ps.length) (by omega) ((m.ps.flatMap fun p => vall [p.id, p.st, p.lo, p.hi, p.fi, p.la]) ++ r)
  have e3 := getPts_put m.ps r hi.parts hp
  unfold getM
  rw [show (5 : Nat) = [m.floor, m.done, m.log, m.next, m.now].length from rfl, e1]
  simp only [e2, if_neg (show ¬ 512 < m.ps.length by omega), e3]
  rfl
/-- The manifest of bytes. -/
def decM (b : List UInt8) : Option Mf := match getM (b.drop 4) with
  | none => none
  | some m => if checkP m = 0 ∧ encM m = b then some m else none
theorem mkPt_ok {l : List Int} (h : ∀ n ∈ l, -9223372036854775808 ≤ n ∧ n ≤ 9223372036854775807) : (mkPt l).Ok := by
  have hg : ∀ i, I64ok (l.getD i 0) := fun i => by
    unfold I64ok
    rw [List.getD_eq_getElem?_getD]
    cases hi : l[i]? with
    | none => simp
    | some v => exact h v (List.mem_of_getElem? hi)
  refine ⟨hg 0, hg 1, hg 2, hg 3, hg 4, hg 5, ?_⟩
  unfold I64ok mkPt wrap64
  simp only
  omega
theorem getPts_in : ∀ (k : Nat) (l : List UInt8) (ps : List Pt) (r : List UInt8), getPts k l = .ok (ps, r) → ps.length = k ∧ ∀ p ∈ ps, p.Ok
  | 0, l, ps, r, h => by
    unfold getPts at h
    injection h with h
    injection h with h1 h2
    subst h1
    exact ⟨rfl, nofun⟩
  | k + 1, l, ps, r, h => by
    unfold getPts at h
    split at h
    · cases h
    · rename_i ns r1 hg
      split at h
      · cases h
      · rename_i ps1 r2 hr
        injection h with h
        injection h with h1 h2
        subst h1
        obtain ⟨h3, h4⟩ := getPts_in k r1 ps1 r2 hr
        refine ⟨by rw [List.length_cons, h3], fun p hp => ?_⟩
        rcases List.mem_cons.1 hp with rfl | hp
        · exact mkPt_ok (getAll_len 6 l ns r1 hg).2.1
        · exact h4 p hp
theorem getM_in {l : List UInt8} {m : Mf} (h : getM l = some m) : m.In := by
  unfold getM at h
  split at h
  · cases h
  · rename_i ns r hg
    split at h
    · cases h
    · rename_i n r2 hv
      split at h
      · cases h
      · split at h
        · cases h
        · rename_i ps r3 hp
          injection h with h
          subst h
          have hg : ∀ i, I64ok (ns.getD i 0) := fun i => by
            unfold I64ok
            rw [List.getD_eq_getElem?_getD]
            cases hi : ns[i]? with
            | none => simp
            | some v => exact (getAll_len 5 l ns r hg).2.1 v (List.mem_of_getElem? hi)
          exact ⟨(getPts_in _ _ _ _ hp).2, hg 0, hg 1, hg 2, hg 3, hg 4⟩
theorem encB_len (m : Mf) : 4 ≤ (encB m).length := by unfold encB; simp
theorem encM_len (m : Mf) : (encM m).length = (encB m).length + 4 := by unfold encM le4; simp
theorem decM_of {b : List UInt8} {m : Mf} (hi : m.In) (hc : checkP m = 0) (he : encM m = b) : decM b = some m := by
  have h4 := encB_len m
  have hg : getM (b.drop 4) = some m := by
    rw [← he]
    unfold encM
    rw [List.drop_append_of_le_length h4]
    exact getM_put hi hc _
  unfold decM
  rw [hg]
  simp only [hc, he, and_self, if_true]
theorem decM_some {b : List UInt8} {m : Mf} (h : decM b = some m) : m.In ∧ checkP m = 0 ∧ encM m = b := by
  unfold decM at h
  split at h
  · cases h
  · rename_i m' hg
    by_cases hc : checkP m' = 0 ∧ encM m' = b
    · rw [if_pos hc] at h
      injection h with h
      subst h
      exact ⟨getM_in hg, hc⟩
    · rw [if_neg hc] at h; cases h
/-- The bytes but for the first four and the last four serve, too. -/
theorem decM_mid (b : List UInt8) : decM b = match getM ((b.drop 4).take (b.length - 8)) with
    | none => none
    | some m => if checkP m = 0 ∧ encM m = b then some m else none := by
  have mid : ∀ m : Mf, m.In → checkP m = 0 → encM m = b → getM ((b.drop 4).take (b.length - 8)) = some m := fun m hi hc he => by
    have h4 := encB_len m
    have hl := encM_len m
    have e : (b.drop 4).take (b.length - 8) = (encB m).drop 4 ++ [] := by
      rw [← he, hl, List.append_nil]
      unfold encM
      rw [List.drop_append_of_le_length h4, List.take_append_of_le_length (by rw [List.length_drop]; omega), List.take_of_length_le (by rw [List.length_drop]; omega)]
    rw [e]
    exact getM_put hi hc []
  cases hd : decM b with
  | some m =>
    obtain ⟨hi, hc, he⟩ := decM_some hd
    rw [mid m hi hc he]
    simp only [hc, he, and_self, if_true]
  | none =>
    split
    · rfl
    · rename_i m hg
      by_cases hc : checkP m = 0 ∧ encM m = b
      · rw [decM_of (getM_in hg) hc.1 hc.2] at hd
        cases hd
      · rw [if_neg hc]
theorem decM_short {b : List UInt8} (h : b.length < 8) : decM b = none := by
  cases hd : decM b with
  | none => rfl
  | some m =>
    obtain ⟨_, _, he⟩ := decM_some hd
    have h4 := encB_len m
    have hl := encM_len m
    rw [he] at hl
    omega
/-- One byte that is another one: nobody's. -/
theorem decM_turned {m : Mf} {p q : List UInt8} {c d : UInt8} (he : encM m = p ++ c :: q) (hne : d ≠ c) : decM (p ++ d :: q) = none := by
  cases hd : decM (p ++ d :: q) with
  | none => rfl
  | some m' =>
    exfalso
    obtain ⟨_, _, he'⟩ := decM_some hd
    have hl : (encB m).length = (encB m').length := by
      have h1 := encM_len m
      have h2 := encM_len m'
      rw [he] at h1
      rw [he'] at h2
      simp only [List.length_append, List.length_cons] at h1 h2
      omega
    have hle : ∀ s, (le4 s).length = 4 := fun _ => rfl
    unfold encM at he he'
    by_cases hp : p.length < (encB m).length
    · -- the byte lies ahead of the sum
      obtain ⟨q1, hq1⟩ : ∃ q1, encB m = p ++ c :: q1 := by
        have h1 := congrArg (List.take (encB m).length) he
        rw [List.take_left, List.take_append, List.take_of_length_le (by omega)] at h1
        obtain ⟨k, hk⟩ : ∃ k, (encB m).length - p.length = k + 1 := ⟨(encB m).length - p.length - 1, by omega⟩
        rw [hk, List.take_succ_cons] at h1
        exact ⟨_, h1⟩
      obtain ⟨q2, hq2⟩ : ∃ q2, encB m' = p ++ d :: q2 := by
        have h1 := congrArg (List.take (encB m').length) he'
        rw [List.take_left, List.take_append, List.take_of_length_le (by omega)] at h1
        obtain ⟨k, hk⟩ : ∃ k, (encB m').length - p.length = k + 1 := ⟨(encB m').length - p.length - 1, by omega⟩
        rw [hk, List.take_succ_cons] at h1
        exact ⟨_, h1⟩
      rw [hq1] at he
      rw [hq2] at he'
      rw [List.append_assoc, List.append_cancel_left_eq, List.cons_append] at he he'
      injection he with _ he
      injection he' with _ he'
      have hql : q1.length = q2.length := by
        rw [hq1, hq2] at hl
        simp only [List.length_append, List.length_cons] at hl
        omega
      obtain ⟨h1, h2⟩ := List.append_inj (he.trans he'.symm) hql
      subst h1
      have := le4_inj (cnext_lt _ _) (cnext_lt _ _) h2
      exact hne (cnext_one p q1 this).symm
    · have h1 := congrArg (List.take (encB m).length) he
      rw [List.take_left, List.take_append_of_le_length (by omega)] at h1
      have h2 := congrArg (List.take (encB m).length) he'
      rw [hl, List.take_left, ← hl, List.take_append_of_le_length (by omega), ← h1] at h2
      rw [h2, he] at he'
      rw [List.append_cancel_left_eq] at he'
      injection he' with h3 _
      exact hne h3.symm
end Go.Proofs.YtijnomopcpgikaaDoor
