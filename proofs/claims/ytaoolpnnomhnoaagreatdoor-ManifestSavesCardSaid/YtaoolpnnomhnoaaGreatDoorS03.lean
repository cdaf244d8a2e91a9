/- The sum of bytes (CRC-32, reflected), plainly. -/
import Derived.Test.YtaoolpnnomhnoaaGreatDoorS01
import Derived.Test.YtaoolpnnomhnoaaGreatDoorS02
import Derived.Laws.BitsAllLaws
import Derived.Deep.QuietTactic
import Derived.BigQuiet
set_option linter.unusedSimpArgs false
set_option linter.unusedVariables false
namespace Go.Proofs.YtaoolpnnomhnoaaGreatDoor

def cstep (y : Nat) : Nat := if y % 2 = 1 then (y / 2) ^^^ 3988292384 else y / 2
def c8 (y : Nat) : Nat := cstep (cstep (cstep (cstep (cstep (cstep (cstep (cstep y)))))))
/-- One byte more. -/
def con (x : Nat) (c : UInt8) : Nat := c8 (x ^^^ c.toNat)
def cnot (x : Nat) : Nat := 4294967295 - x
def cnext (s : Nat) (l : List UInt8) : Nat := cnot (l.foldl con (cnot s))
theorem half_xor (a b : Nat) : (a ^^^ b) / 2 = (a / 2) ^^^ (b / 2) := by
  have := Nat.shiftRight_xor_distrib (a := a) (b := b) (i := 1)
  simpa [Nat.shiftRight_eq_div_pow] using this
theorem odd_xor (a b : Nat) : (a ^^^ b) % 2 = (a % 2) ^^^ (b % 2) := by
  have := Nat.xor_mod_two_pow (a := a) (b := b) (n := 1)
  simpa using this
theorem cstep_xor (a b : Nat) : cstep (a ^^^ b) = cstep a ^^^ cstep b := by
  unfold cstep
  rw [half_xor, odd_xor]
  rcases Nat.mod_two_eq_zero_or_one a with ha | ha <;> rcases Nat.mod_two_eq_zero_or_one b with hb | hb <;> rw [ha, hb]
  · rfl
  · show (a / 2 ^^^ b / 2) ^^^ 3988292384 = (a / 2) ^^^ (b / 2 ^^^ 3988292384)
    rw [Nat.xor_assoc]
  · show (a / 2 ^^^ b / 2) ^^^ 3988292384 = (a / 2 ^^^ 3988292384) ^^^ (b / 2)
    rw [Nat.xor_assoc, Nat.xor_assoc, Nat.xor_comm (b / 2)]
  · show (a / 2 ^^^ b / 2) = (a / 2 ^^^ 3988292384) ^^^ (b / 2 ^^^ 3988292384)
    rw [Nat.xor_assoc, ← Nat.xor_assoc 3988292384, Nat.xor_comm 3988292384 (b / 2), Nat.xor_assoc (b / 2), Nat.xor_self, Nat.xor_zero]
theorem c8_xor (a b : Nat) : c8 (a ^^^ b) = c8 a ^^^ c8 b := by
  unfold c8
  simp only [cstep_xor]
theorem cstep_two (z : Nat) : cstep (z * 2) = z := by
  unfold cstep
  rw [if_neg (by omega)]
  omega
theorem c8_high (z : Nat) : c8 (z * 256) = z := by
  unfold c8
  rw [show z * 256 = z * 2 * 2 * 2 * 2 * 2 * 2 * 2 * 2 by omega]
  simp only [cstep_two]
theorem split_low (y : Nat) : y = (y % 256) ^^^ (y / 256 * 256) := by
  have h : y / 256 * 256 ||| y % 256 = y / 256 * 256 + y % 256 := by
    have := Nat.shiftLeft_add_eq_or_of_lt (b := y % 256) (i := 8) (Nat.mod_lt _ (by decide)) (y / 256)
    rw [Nat.shiftLeft_eq] at this
    exact this.symm
  apply Nat.eq_of_testBit_eq
  intro i
  rw [Nat.testBit_xor]
  have h1 : (y % 256).testBit i = (decide (i < 8) && y.testBit i) := Nat.testBit_mod_two_pow y 8 i
  have h2 : (y / 256 * 256).testBit i = (decide (8 ≤ i) && y.testBit i) := by
    have e : y / 256 * 256 = (y >>> 8) <<< 8 := by rw [Nat.shiftRight_eq_div_pow, Nat.shiftLeft_eq]
    rw [e, Nat.testBit_shiftLeft, Nat.testBit_shiftRight]
    by_cases h8 : 8 ≤ i
    · rw [show 8 + (i - 8) = i by omega]
    · simp [h8]
  rw [h1, h2]
  by_cases h8 : i < 8
  · simp [h8, show ¬ 8 ≤ i by omega]
  · simp [h8, show 8 ≤ i by omega]
/-- By the table. -/
theorem con_table (x : Nat) (c : UInt8) : con x c = c8 ((x ^^^ c.toNat) % 256) ^^^ (x / 256) := by
  unfold con
  have hc : c.toNat / 256 = 0 := by have := c.toNat_lt; omega
  have h := Nat.shiftRight_xor_distrib (a := x) (b := c.toNat) (i := 8)
  rw [Nat.shiftRight_eq_div_pow, Nat.shiftRight_eq_div_pow, Nat.shiftRight_eq_div_pow] at h
  have h2 : (x ^^^ c.toNat) / 256 = x / 256 := by
    have : (2 : Nat) ^ 8 = 256 := rfl
    rw [this, hc, Nat.xor_zero] at h
    exact h
  conv => lhs; rw [split_low (x ^^^ c.toNat)]
  rw [c8_xor, c8_high, h2]
theorem cstep_lt {y : Nat} (h : y < 4294967296) : cstep y < 4294967296 := by
  unfold cstep
  split
  · exact Nat.xor_lt_two_pow (n := 32) (by omega) (by omega)
  · omega
theorem c8_lt {y : Nat} (h : y < 4294967296) : c8 y < 4294967296 := by
  unfold c8
  exact cstep_lt (cstep_lt (cstep_lt (cstep_lt (cstep_lt (cstep_lt (cstep_lt (cstep_lt h)))))))
theorem con_lt {x : Nat} (c : UInt8) (h : x < 4294967296) : con x c < 4294967296 := by
  unfold con
  have := c.toNat_lt
  exact c8_lt (Nat.xor_lt_two_pow (n := 32) (by omega) (by omega))
theorem fold_lt : ∀ (l : List UInt8) {x : Nat}, x < 4294967296 → l.foldl con x < 4294967296
  | [], _, h => h
  | c :: l, _, h => fold_lt l (con_lt c h)
theorem cnext_lt (s : Nat) (l : List UInt8) : cnext s l < 4294967296 := by
  unfold cnext cnot
  omega
theorem cstep_inj {a b : Nat} (ha : a < 4294967296) (hb : b < 4294967296) (h : cstep a = cstep b) : a = b := by
  have top : ∀ z, z < 2147483648 → 2147483648 ≤ z ^^^ 3988292384 := fun z hz => by
    apply Nat.le_of_not_lt
    intro hlt
    have h1 : (z ^^^ 3988292384).testBit 31 = false := Nat.testBit_lt_two_pow hlt
    rw [Nat.testBit_xor, Nat.testBit_lt_two_pow (show z < 2 ^ 31 from hz)] at h1
    revert h1
    decide
  unfold cstep at h
  rcases Nat.mod_two_eq_zero_or_one a with pa | pa <;> rcases Nat.mod_two_eq_zero_or_one b with pb | pb <;> simp only [pa, pb] at h
  · simp at h; omega
  · simp at h; have := top (b / 2) (by omega); omega
  · simp at h; have := top (a / 2) (by omega); omega
  · simp at h
    have h2 := congrArg (· ^^^ 3988292384) h
    simp [Nat.xor_assoc] at h2
    omega
theorem c8_inj {a b : Nat} (ha : a < 4294967296) (hb : b < 4294967296) (h : c8 a = c8 b) : a = b := by
  unfold c8 at h
  have q := @cstep_lt
  refine cstep_inj ha hb (cstep_inj (q ha) (q hb) (cstep_inj (q (q ha)) (q (q hb)) (cstep_inj (q (q (q ha))) (q (q (q hb))) (cstep_inj (q (q (q (q ha)))) (q (q (q (q hb)))) (cstep_inj (q (q (q (q (q ha))))) (q (q (q (q (q hb))))) (cstep_inj (q (q (q (q (q (q ha)))))) (q (q (q (q (q (q hb)))))) (cstep_inj (q (q (q (q (q (q (q ha))))))) (q (q (q (q (q (q (q hb))))))) h)))))))
theorem con_inj_left {a b : Nat} (c : UInt8) (ha : a < 4294967296) (hb : b < 4294967296) (h : con a c = con b c) : a = b := by
  have := c.toNat_lt
  have h1 := c8_inj (Nat.xor_lt_two_pow (n := 32) (by omega) (by omega)) (Nat.xor_lt_two_pow (n := 32) (by omega) (by omega)) h
  have h2 := congrArg (· ^^^ c.toNat) h1
  simpa [Nat.xor_assoc] using h2
theorem con_inj_right {a : Nat} {c d : UInt8} (ha : a < 4294967296) (h : con a c = con a d) : c = d := by
  have := c.toNat_lt
  have := d.toNat_lt
  have h1 := c8_inj (Nat.xor_lt_two_pow (n := 32) (by omega) (by omega)) (Nat.xor_lt_two_pow (n := 32) (by omega) (by omega)) h
  have h2 := congrArg (a ^^^ ·) h1
  simp only [← Nat.xor_assoc, Nat.xor_self, Nat.zero_xor] at h2
  exact UInt8.toNat_inj.1 h2
theorem fold_inj : ∀ (l : List UInt8) {a b : Nat}, a < 4294967296 → b < 4294967296 → l.foldl con a = l.foldl con b → a = b
  | [], _, _, _, _, h => h
  | c :: l, _, _, ha, hb, h => con_inj_left c ha hb (fold_inj l (con_lt c ha) (con_lt c hb) h)
/-- One byte that is another one turns the sum. -/
theorem cnext_one {s : Nat} (p q : List UInt8) {c d : UInt8} (h : cnext s (p ++ c :: q) = cnext s (p ++ d :: q)) : c = d := by
  unfold cnext at h
  have hs : cnot s < 4294967296 := by unfold cnot; omega
  have hp := fold_lt p hs
  rw [List.foldl_append, List.foldl_append, List.foldl_cons, List.foldl_cons] at h
  have h1 := fold_lt q (con_lt c hp)
  have h2 := fold_lt q (con_lt d hp)
  unfold cnot at h h1 h2 hs hp
  have h3 := fold_inj q (con_lt c hp) (con_lt d hp) (by omega)
  exact con_inj_right hp h3
end Go.Proofs.YtaoolpnnomhnoaaGreatDoor

/- A manifest's bytes, plainly. -/
namespace Go.Proofs.YtaoolpnnomhnoaaGreatDoor
open Go.RowKit

def encB (m : Mf) : List UInt8 := [76, 71, 77, 49] ++ (vall [m.floor, m.done, m.log, m.next, m.now] ++ (vb m.ps.length ++ m.ps.flatMap fun p => vall [p.id, p.st, p.lo, p.hi, p.fi, p.la]))
def le4 (s : Nat) : List UInt8 := [UInt8.ofNat (s % 256), UInt8.ofNat (s / 256 % 256), UInt8.ofNat (s / 65536 % 256), UInt8.ofNat (s / 16777216 % 256)]
def encM (m : Mf) : List UInt8 := encB m ++ le4 (cnext 0 (encB m))
theorem le4_inj {a b : Nat} (ha : a < 4294967296) (hb : b < 4294967296) (h : le4 a = le4 b) : a = b := by
  unfold le4 at h
  injection h with h1 h
  injection h with h2 h
  injection h with h3 h
  injection h with h4 _
  have e : ∀ x y : Nat, x < 256 → y < 256 → UInt8.ofNat x = UInt8.ofNat y → x = y := fun x y hx hy h => by
    have := congrArg UInt8.toNat h
    rw [UInt8.toNat_ofNat', UInt8.toNat_ofNat'] at this
    omega
  have e1 := e _ _ (by omega) (by omega) h1
  have e2 := e _ _ (by omega) (by omega) h2
  have e3 := e _ _ (by omega) (by omega) h3
  have e4 := e _ _ (by omega) (by omega) h4
  omega
def mkPt (l : List Int) : Pt := ⟨l.getD 0 0, l.getD 1 0, l.getD 2 0, l.getD 3 0, l.getD 4 0, l.getD 5 0, wrap64 (wrap64 (l.getD 5 0 - l.getD 4 0) + 1)⟩
def getPts : Nat → List UInt8 → Except Nat (List Pt × List UInt8)
  | 0, l => .ok ([], l)
  | k + 1, l => match getAll 6 l with
    | .error e => .error e
    | .ok (ns, r) => match getPts k r with
      | .error e => .error e
      | .ok (ps, r') => .ok (mkPt ns :: ps, r')
def mkMf (l : List Int) (ps : List Pt) : Mf := ⟨ps, l.getD 0 0, l.getD 1 0, l.getD 2 0, l.getD 3 0, l.getD 4 0⟩
def getM (l : List UInt8) : Option Mf := match getAll 5 l with
  | .error _ => none
  | .ok (ns, r) => match getV 0 r with
    | .error _ => none
    | .ok (n, r) => if 512 < n then none else match getPts n r with
      | .error _ => none
      | .ok (ps, _) => some (mkMf ns ps)
/-- All its numbers are int's. -/
structure Mf.In (m : Mf) : Prop where
  parts : ∀ p ∈ m.ps, p.Ok
  floor : I64ok m.floor
  done : I64ok m.done
  log : I64ok m.log
  next : I64ok m.next
  now : I64ok m.now
theorem Mf.Ok.in_ {m : Mf} {w : World} {base : Nat} {A : Option Addr} {c : Nat} (h : m.Ok w base A c) : m.In := ⟨h.parts.ok, h.floor, h.done, h.log, h.next, h.now⟩
theorem goP_part : ∀ {ps : List Pt} {id last : Int}, goP ps id last ≠ none → ∀ p ∈ ps, partP p = true
  | [], _, _, _, p, hp => by cases hp
  | q :: ps, id, last, h, p, hp => by
    unfold goP at h
    by_cases hc : partP q = true ∧ id < q.id ∧ last < q.fi
    · rw [if_pos hc] at h
      rcases List.mem_cons.1 hp with rfl | hp
      · exact hc.1
      · exact goP_part h p hp
    · rw [if_neg hc] at h
      exact absurd rfl h
theorem checkP_zero {m : Mf} (h : checkP m = 0) : m.ps.length ≤ 512 ∧ ∀ p ∈ m.ps, partP p = true := by
  unfold checkP at h
  by_cases h5 : 512 < m.ps.length
  · rw [if_pos h5] at h; cases h
  · rw [if_neg h5] at h
    refine ⟨by omega, ?_⟩
    cases hi : isP m with
    | false => rw [hi] at h; cases h
    | true =>
      unfold isP at hi
      cases hg : goP m.ps 0 0 with
      | none => rw [hg] at hi; cases hi
      | some x => exact goP_part (by rw [hg]; simp)
theorem mkPt_of {p : Pt} (h : partP p = true) : mkPt [p.id, p.st, p.lo, p.hi, p.fi, p.la] = p := by
  unfold partP at h
  simp only [Bool.and_eq_true, decide_eq_true_eq] at h
  obtain ⟨⟨⟨⟨⟨⟨_, _⟩, _⟩, h1⟩, h2⟩, h3⟩, h4⟩ := h
  unfold mkPt
  simp only [List.getD_cons_zero, List.getD_cons_succ]
  rw [IntWalk.wrap64_in (p.la - p.fi) ⟨by omega, by omega⟩, IntWalk.wrap64_in _ ⟨by omega, by omega⟩, ← h4]
theorem getPts_put : ∀ (ps : List Pt) (r : List UInt8), (∀ p ∈ ps, p.Ok) → (∀ p ∈ ps, partP p = true) → getPts ps.length ((ps.flatMap fun p => vall [p.id, p.st, p.lo, p.hi, p.fi, p.la]) ++ r) = .ok (ps, r)
  | [], r, _, _ => rfl
  | p :: ps, r, h, hp => by
    have ho := h p (List.mem_cons_self ..)
    have ih := getPts_put ps r (fun q hq => h q (List.mem_cons_of_mem _ hq)) fun q hq => hp q (List.mem_cons_of_mem _ hq)
    have hn : ∀ n ∈ [p.id, p.st, p.lo, p.hi, p.fi, p.la], -9223372036854775808 ≤ n ∧ n ≤ 9223372036854775807 := by
      intro n hn
      simp only [List.mem_cons, List.not_mem_nil, or_false] at hn
      rcases hn with rfl | rfl | rfl | rfl | rfl | rfl
      · exact ho.id
      · exact ho.st
      · exact ho.lo
      · exact ho.hi
      · exact ho.fi
      · exact ho.la
    have e := getAll_put [p.id, p.st, p.lo, p.hi, p.fi, p.la] ((ps.flatMap fun p => vall [p.id, p.st, p.lo, p.hi, p.fi, p.la]) ++ r) hn
    rw [List.length_cons, List.flatMap_cons, List.append_assoc]
    unfold getPts
    rw [show (6 : Nat) = [p.id, p.st, p.lo, p.hi, p.fi, p.la].length from rfl, e]
    simp only [ih, mkPt_of (hp p (List.mem_cons_self ..))]
theorem getM_put {m : Mf} (hi : m.In) (hc : checkP m = 0) (r : List UInt8) : getM ((encB m).drop 4 ++ r) = some m := by
  obtain ⟨h5, hp⟩ := checkP_zero hc
  have hd : (encB m).drop 4 = vall [m.floor, m.done, m.log, m.next, m.now] ++ (vb m.ps.length ++ m.ps.flatMap fun p => vall [p.id, p.st, p.lo, p.hi, p.fi, p.la]) := by
    unfold encB
    rw [List.drop_append_of_le_length (by simp), List.drop_of_length_le (by simp), List.nil_append]
  rw [hd, List.append_assoc, List.append_assoc]
  have hn : ∀ n ∈ [m.floor, m.done, m.log, m.next, m.now], -9223372036854775808 ≤ n ∧ n ≤ 9223372036854775807 := by
    intro n hn
    simp only [List.mem_cons, List.not_mem_nil, or_false] at hn
    rcases hn with rfl | rfl | rfl | rfl | rfl
    · exact hi.floor
    · exact hi.done
    · exact hi.log
    · exact hi.next
    · exact hi.now
  have e1 := getAll_put [m.floor, m.done, m.log, m.next, m.now] (vb m.ps.length ++ ((m.ps.flatMap fun p => vall [p.id, p.st, p.lo, p.hi, p.fi, p.la]) ++ r)) hn
  have e2 := getV_put (n := m.ps.length) (by omega) ((m.ps.flatMap fun p => vall [p.id, p.st, p.lo, p.hi, p.fi, p.la]) ++ r)
  have e3 := getPts_put m.ps r hi.parts hp
  unfold getM
  rw [show (5 : Nat) = [m.floor, m.done, m.log, m.next, m.now].length from rfl, e1]
  simp only [e2, if_neg (show ¬ 512 < m.ps.length by omega), e3]
  rfl
/-- The manifest of bytes. -/
def decM (b : List UInt8) : Option Mf := match getM (b.drop 4) with
  | none => none
  | some m => if checkP m = 0 ∧ encM m = b then some m else none
theorem mkPt_ok {l : List Int} (h : ∀ n ∈ l, -9223372036854775808 ≤ n ∧ n ≤ 9223372036854775807) : (mkPt l).Ok := by
  have hg : ∀ i, I64ok (l.getD i 0) := fun i => by
    unfold I64ok
    rw [List.getD_eq_getElem?_getD]
    cases hi : l[i]? with
    | none => simp
    | some v => exact h v (List.mem_of_getElem? hi)
  refine ⟨hg 0, hg 1, hg 2, hg 3, hg 4, hg 5, ?_⟩
  unfold I64ok mkPt wrap64
  simp only
  omega
theorem getPts_in : ∀ (k : Nat) (l : List UInt8) (ps : List Pt) (r : List UInt8), getPts k l = .ok (ps, r) → ps.length = k ∧ ∀ p ∈ ps, p.Ok
  | 0, l, ps, r, h => by
    unfold getPts at h
    injection h with h
    injection h with h1 h2
    subst h1
    exact ⟨rfl, nofun⟩
  | k + 1, l, ps, r, h => by
    unfold getPts at h
    split at h
    · cases h
    · rename_i ns r1 hg
      split at h
      · cases h
      · rename_i ps1 r2 hr
        injection h with h
        injection h with h1 h2
        subst h1
        obtain ⟨h3, h4⟩ := getPts_in k r1 ps1 r2 hr
        refine ⟨by rw [List.length_cons, h3], fun p hp => ?_⟩
        rcases List.mem_cons.1 hp with rfl | hp
        · exact mkPt_ok (getAll_len 6 l ns r1 hg).2.1
        · exact h4 p hp
theorem getM_in {l : List UInt8} {m : Mf} (h : getM l = some m) : m.In := by
  unfold getM at h
  split at h
  · cases h
  · rename_i ns r hg
    split at h
    · cases h
    · rename_i n r2 hv
      split at h
      · cases h
      · split at h
        · cases h
        · rename_i ps r3 hp
          injection h with h
          subst h
          have hg : ∀ i, I64ok (ns.getD i 0) := fun i => by
            unfold I64ok
            rw [List.getD_eq_getElem?_getD]
            cases hi : ns[i]? with
            | none => simp
            | some v => exact (getAll_len 5 l ns r hg).2.1 v (List.mem_of_getElem? hi)
          exact ⟨(getPts_in _ _ _ _ hp).2, hg 0, hg 1, hg 2, hg 3, hg 4⟩
theorem encB_len (m : Mf) : 4 ≤ (encB m).length := by unfold encB; simp
theorem encM_len (m : Mf) : (encM m).length = (encB m).length + 4 := by unfold encM le4; simp
theorem decM_of {b : List UInt8} {m : Mf} (hi : m.In) (hc : checkP m = 0) (he : encM m = b) : decM b = some m := by
  have h4 := encB_len m
  have hg : getM (b.drop 4) = some m := by
    rw [← he]
    unfold encM
    rw [List.drop_append_of_le_length h4]
    exact getM_put hi hc _
  unfold decM
  rw [hg]
  simp only [hc, he, and_self, if_true]
theorem decM_some {b : List UInt8} {m : Mf} (h : decM b = some m) : m.In ∧ checkP m = 0 ∧ encM m = b := by
  unfold decM at h
  split at h
  · cases h
  · rename_i m' hg
    by_cases hc : checkP m' = 0 ∧ encM m' = b
    · rw [if_pos hc] at h
      injection h with h
      subst h
      exact ⟨getM_in hg, hc⟩
    · rw [if_neg hc] at h; cases h
/-- The bytes but for the first four and the last four serve, too. -/
theorem decM_mid (b : List UInt8) : decM b = match getM ((b.drop 4).take (b.length - 8)) with
    | none => none
    | some m => if checkP m = 0 ∧ encM m = b then some m else none := by
  have mid : ∀ m : Mf, m.In → checkP m = 0 → encM m = b → getM ((b.drop 4).take (b.length - 8)) = some m := fun m hi hc he => by
    have h4 := encB_len m
    have hl := encM_len m
    have e : (b.drop 4).take (b.length - 8) = (encB m).drop 4 ++ [] := by
      rw [← he, hl, List.append_nil]
      unfold encM
      rw [List.drop_append_of_le_length h4, List.take_append_of_le_length (by rw [List.length_drop]; omega), List.take_of_length_le (by rw [List.length_drop]; omega)]
    rw [e]
    exact getM_put hi hc []
  cases hd : decM b with
  | some m =>
    obtain ⟨hi, hc, he⟩ := decM_some hd
    rw [mid m hi hc he]
    simp only [hc, he, and_self, if_true]
  | none =>
    split
    · rfl
    · rename_i m hg
      by_cases hc : checkP m = 0 ∧ encM m = b
      · rw [decM_of (getM_in hg) hc.1 hc.2] at hd
        cases hd
      · rw [if_neg hc]
theorem decM_short {b : List UInt8} (h : b.length < 8) : decM b = none := by
  cases hd : decM b with
  | none => rfl
  | some m =>
    obtain ⟨_, _, he⟩ := decM_some hd
    have h4 := encB_len m
    have hl := encM_len m
    rw [he] at hl
    omega
/-- One byte that is another one: nobody's. -/
theorem decM_turned {m : Mf} {p q : List UInt8} {c d : UInt8} (he : encM m = p ++ c :: q) (hne : d ≠ c) : decM (p ++ d :: q) = none := by
  cases hd : decM (p ++ d :: q) with
  | none => rfl
  | some m' =>
    exfalso
    obtain ⟨_, _, he'⟩ := decM_some hd
    have hl : (encB m).length = (encB m').length := by
      have h1 := encM_len m
      have h2 := encM_len m'
      rw [he] at h1
      rw [he'] at h2
      simp only [List.length_append, List.length_cons] at h1 h2
      omega
    have hle : ∀ s, (le4 s).length = 4 := fun _ => rfl
    unfold encM at he he'
    by_cases hp : p.length < (encB m).length
    · -- the byte lies ahead of the sum
      obtain ⟨q1, hq1⟩ : ∃ q1, encB m = p ++ c :: q1 := by
        have h1 := congrArg (List.take (encB m).length) he
        rw [List.take_left, List.take_append, List.take_of_length_le (by omega)] at h1
        obtain ⟨k, hk⟩ : ∃ k, (encB m).length - p.length = k + 1 := ⟨(encB m).length - p.length - 1, by omega⟩
        rw [hk, List.take_succ_cons] at h1
        exact ⟨_, h1⟩
      obtain ⟨q2, hq2⟩ : ∃ q2, encB m' = p ++ d :: q2 := by
        have h1 := congrArg (List.take (encB m').length) he'
        rw [List.take_left, List.take_append, List.take_of_length_le (by omega)] at h1
        obtain ⟨k, hk⟩ : ∃ k, (encB m').length - p.length = k + 1 := ⟨(encB m').length - p.length - 1, by omega⟩
        rw [hk, List.take_succ_cons] at h1
        exact ⟨_, h1⟩
      rw [hq1] at he
      rw [hq2] at he'
      rw [List.append_assoc, List.append_cancel_left_eq, List.cons_append] at he he'
      injection he with _ he
      injection he' with _ he'
      have hql : q1.length = q2.length := by
        rw [hq1, hq2] at hl
        simp only [List.length_append, List.length_cons] at hl
        omega
      obtain ⟨h1, h2⟩ := List.append_inj (he.trans he'.symm) hql
      subst h1
      have := le4_inj (cnext_lt _ _) (cnext_lt _ _) h2
      exact hne (cnext_one p q1 this).symm
    · have h1 := congrArg (List.take (encB m).length) he
      rw [List.take_left, List.take_append_of_le_length (by omega)] at h1
      have h2 := congrArg (List.take (encB m).length) he'
      rw [hl, List.take_left, ← hl, List.take_append_of_le_length (by omega), ← h1] at h2
      rw [h2, he] at he'
      rw [List.append_cancel_left_eq] at he'
      injection he' with h3 _
      exact hne h3.symm
end Go.Proofs.YtaoolpnnomhnoaaGreatDoor

/- loggiaref16: Is. -/
namespace Go.Proofs.YtaoolpnnomhnoaaGreatDoor
open Go.RowKit

theorem isP_bad {m : Mf} (h : goP m.ps 0 0 = none) : isP m = false := by
  unfold isP
  rw [h]
theorem isP_end {m : Mf} {id last : Int} (h : goP m.ps 0 0 = some (id, last)) : isP m = endP m id last := by
  unfold isP
  rw [h]
set_option maxRecDepth 100000 in
set_option maxHeartbeats 4000000 in
theorem is_any (base : Nat) (m : Mf) (A : Option Addr) (c : Nat) (w : World) (h : m.Ok w base A c) : Calls Tryz.prog 31 #[m.val A c] w fun e w' => e = .returned (.bool (isP m)) ∧ Ext w w' := by
  have hparts := h.parts
  have hmost := hparts.most
  have hf := h.done
  have hlg := h.log
  have hnx := h.next
  unfold I64ok at hf hlg hnx
  have hln : ∀ W, Calls Tryz.prog 65 #[.int .i64 m.log] W fun e w' => e = .returned (.bool (numP m.log)) ∧ w' = W := eight_any m.log
  have hnn : ∀ W, Calls Tryz.prog 65 #[.int .i64 m.next] W fun e w' => e = .returned (.bool (numP m.next)) ∧ w' = W := eight_any m.next
  unfold Mf.val
  replace hln := hide hln
  replace hnn := hide hnn
  · have hb : Row (w.alloc (.cells #[.slice A m.ps.length c, .int .i64 m.floor, .int .i64 m.done, .int .i64 m.log, .int .i64 m.next, .int .i64 m.now] 24)) w.heap.size 24 #[.slice A m.ps.length c, .int .i64 m.floor, .int .i64 m.done, .int .i64 m.log, .int .i64 m.next, .int .i64 m.now] := Row.new w _ _
    have hE0 : Ext w (w.alloc (.cells #[.slice A m.ps.length c, .int .i64 m.floor, .int .i64 m.done, .int .i64 m.log, .int .i64 m.next, .int .i64 m.now] 24)) := (Ext.refl w).alloc _
    go_enter Tryz.func31, Tryz.ntmps31
    go_wp2_with fail
    obtain ⟨W, hW⟩ : ∃ W, W = w.alloc (.cells #[.slice A m.ps.length c, .int .i64 m.floor, .int .i64 m.done, .int .i64 m.log, .int .i64 m.next, .int .i64 m.now] 24) := ⟨_, rfl⟩
    rw [← hW] at hb hE0
    try rw [← hW]
    clear hW
    go_loopw [3, 4, 5] (fun s3 s4 s14 wr => ∃ (i : Nat) (id last : Int), s3 = .int .i64 id ∧ s4 = .int .i64 last ∧ s14 = .int .i64 i ∧ i ≤ m.ps.length ∧ I64ok id ∧ I64ok last ∧ Hid (goP m.ps 0 0 = goP (m.ps.drop i) id last) ∧ Hid (Ext W wr)) (fun _ _ s14 _ => m.ps.length - (intOf s14).toNat)
    case atStart => exact ⟨0, 0, 0, rfl, rfl, rfl, by omega, by unfold I64ok; omega, by unfold I64ok; omega, rfl, hide (Ext.refl W)⟩
    case round =>
      obtain ⟨i, id, last, rfl, rfl, rfl, hi, hid, hla, hgo, hE⟩ := hrel
      unfold I64ok at hid hla
      by_cases hin : i < m.ps.length
      · obtain ⟨g, s, p, rfl, hp, hpo, k0, k1, k2, k3, k4, k5, k6⟩ := (hparts.ext (hE0.trans hE.out)).at_ hin
        have hpc := rpart_any p (wr.alloc (.cells #[.int .i64 p.id, .int .i64 p.st, .int .i64 p.lo, .int .i64 p.hi, .int .i64 p.fi, .int .i64 p.la, .int .i64 p.n] 71)) hpo
        have hbx : Row (wr.alloc (.cells #[.int .i64 p.id, .int .i64 p.st, .int .i64 p.lo, .int .i64 p.hi, .int .i64 p.fi, .int .i64 p.la, .int .i64 p.n] 71)) wr.heap.size 71 #[.int .i64 p.id, .int .i64 p.st, .int .i64 p.lo, .int .i64 p.hi, .int .i64 p.fi, .int .i64 p.la, .int .i64 p.n] := Row.new wr _ _
        have hEa : Ext W (wr.alloc (.cells #[.int .i64 p.id, .int .i64 p.st, .int .i64 p.lo, .int .i64 p.hi, .int .i64 p.fi, .int .i64 p.la, .int .i64 p.n] 71)) := hE.out.alloc _
        have k7 := (hb.ext hE.out).cell 0 rfl
        obtain ⟨q1, q2, q3, q4, q5, q6, q7⟩ := hpo
        unfold I64ok at q1 q2 q3 q4 q5 q6 q7
        have hga := goP_at hp id last
        rw [← hgo.out] at hga
        unfold Pt.val at hpc
        replace hga := hide hga
        replace hbx := hide hbx
        replace hEa := hide hEa
        cases hpp : partP p with
        | false =>
          rw [hpp] at hpc
          replace hpc := hide hpc
          have hbad : isP m = false := isP_bad (by rw [hga.out, if_neg (by rw [hpp]; simp)])
          replace hbad := hide hbad
          go_wp2_with fail
          refine hpc.out.mono ?_
          rintro e w4 ⟨rfl, hE4⟩
          go_wp2_with fail
          go_ret
          rw [hbad.out]
          exact ⟨rfl, (hE0.trans hEa.out).trans hE4⟩
        | true =>
          rw [hpp] at hpc
          replace hpc := hide hpc
          by_cases hx1 : id < p.id
          · by_cases hx2 : last < p.fi
            · have hnext := hga.out
              rw [if_pos ⟨hpp, hx1, hx2⟩] at hnext
              replace hnext := hide hnext
              go_wp2_with fail
              refine hpc.out.mono ?_
              rintro e w4 ⟨rfl, hE4⟩
              have hb4 := hbx.out.ext hE4
              have x0 := hb4.cell 0 rfl
              have x4 := hb4.cell 4 rfl
              have x5 := hb4.cell 5 rfl
              go_wp2_with fail
              go_roundw
              case rel => exact ⟨i + 1, p.id, p.la, rfl, rfl, by go_num, by omega, by unfold I64ok; omega, by unfold I64ok; omega, hnext, hide (hEa.out.trans hE4)⟩
              case measure => simp [intOf]; omega
            · have hbad : isP m = false := isP_bad (by rw [hga.out, if_neg (fun hh => hx2 hh.2.2)])
              replace hbad := hide hbad
              go_wp2_with fail
              refine hpc.out.mono ?_
              rintro e w4 ⟨rfl, hE4⟩
              have hb4 := hbx.out.ext hE4
              have x0 := hb4.cell 0 rfl
              have x4 := hb4.cell 4 rfl
              go_wp2_with fail
              go_ret
              rw [hbad.out]
              exact ⟨rfl, (hE0.trans hEa.out).trans hE4⟩
          · have hbad : isP m = false := isP_bad (by rw [hga.out, if_neg (fun hh => hx1 hh.2.1)])
            replace hbad := hide hbad
            go_wp2_with fail
            refine hpc.out.mono ?_
            rintro e w4 ⟨rfl, hE4⟩
            have hb4 := hbx.out.ext hE4
            have x0 := hb4.cell 0 rfl
            have x4 := hb4.cell 4 rfl
            go_wp2_with fail
            go_ret
            rw [hbad.out]
            exact ⟨rfl, (hE0.trans hEa.out).trans hE4⟩
      · have hii : i = m.ps.length := by omega
        have hb1 : decide ((i : Int) < (m.ps.length : Int)) = false := decide_eq_false (by omega)
        have hend : goP m.ps 0 0 = some (id, last) := by
          rw [hgo.out, List.drop_of_length_le (by omega)]
          rfl
        have hce := isP_end hend
        have hbr := hb.ext hE.out
        have x0 := hbr.cell 0 rfl
        have x2 := hbr.cell 2 rfl
        have x3 := hbr.cell 3 rfl
        have x4 := hbr.cell 4 rfl
        have hEr := hide (hE0.trans hE.out)
        clear hii
        replace hce := hide hce
        replace hend := hide hend
        by_cases e1 : last ≤ m.done
        · by_cases e2 : m.done ≤ 1099511627776
          · cases e3 : numP m.log with
            | false =>
              rw [e3] at hln
              have hv : endP m id last = false := by unfold endP; simp [e1, e2, e3]
              have hres : isP m = false := by rw [hce.out, hv]
              clear hv
              replace hres := hide hres
              go_wp2_with fail
              refine (hln.out _).mono ?_
              rintro e w5 ⟨rfl, rfl⟩
              go_wp2_with fail
              go_ret
              rw [hres.out]
              exact ⟨by first | rfl | simp [e1, e2, e3], hEr.out⟩
            | true =>
              rw [e3] at hln
              cases e4 : numP m.next with
              | false =>
                rw [e4] at hnn
                have hv : endP m id last = false := by unfold endP; simp [e1, e2, e3, e4]
                have hres : isP m = false := by rw [hce.out, hv]
                clear hv
                replace hres := hide hres
                go_wp2_with fail
                refine (hln.out _).mono ?_
                rintro e w5 ⟨rfl, rfl⟩
                go_wp2_with fail
                refine (hnn.out _).mono ?_
                rintro e w6 ⟨rfl, rfl⟩
                go_wp2_with fail
                go_ret
                rw [hres.out]
                exact ⟨by first | rfl | simp [e1, e2, e3, e4], hEr.out⟩
              | true =>
                rw [e4] at hnn
                by_cases e5 : id < m.next
                · have hv : endP m id last = true := by unfold endP; simp [e1, e2, e3, e4, e5]
                  have hres : isP m = true := by rw [hce.out, hv]
                  clear hv
                  replace hres := hide hres
                  go_wp2_with fail
                  refine (hln.out _).mono ?_
                  rintro e w5 ⟨rfl, rfl⟩
                  go_wp2_with fail
                  refine (hnn.out _).mono ?_
                  rintro e w6 ⟨rfl, rfl⟩
                  go_wp2_with fail
                  go_ret
                  rw [hres.out]
                  exact ⟨by first | rfl | simp [e1, e2, e3, e4, e5], hEr.out⟩
                · have hv : endP m id last = false := by unfold endP; simp [e1, e2, e3, e4, e5]
                  have hres : isP m = false := by rw [hce.out, hv]
                  clear hv
                  replace hres := hide hres
                  go_wp2_with fail
                  refine (hln.out _).mono ?_
                  rintro e w5 ⟨rfl, rfl⟩
                  go_wp2_with fail
                  refine (hnn.out _).mono ?_
                  rintro e w6 ⟨rfl, rfl⟩
                  go_wp2_with fail
                  go_ret
                  rw [hres.out]
                  exact ⟨by first | rfl | simp [e1, e2, e3, e4, e5], hEr.out⟩
          · have hv : endP m id last = false := by unfold endP; simp [e1, e2]
            have hres : isP m = false := by rw [hce.out, hv]
            clear hv
            replace hres := hide hres
            go_wp2_with fail
            go_ret
            rw [hres.out]
            exact ⟨by first | rfl | simp [e1, e2], hEr.out⟩
        · have hv : endP m id last = false := by unfold endP; simp [e1]
          have hres : isP m = false := by rw [hce.out, hv]
          clear hv
          replace hres := hide hres
          go_wp2_with fail
          go_ret
          rw [hres.out]
          exact ⟨by first | rfl | simp [e1], hEr.out⟩
end Go.Proofs.YtaoolpnnomhnoaaGreatDoor

/- loggiaref16: Check; the new ones; few. -/
namespace Go.Proofs.YtaoolpnnomhnoaaGreatDoor
open Go.RowKit

set_option maxRecDepth 100000 in
set_option maxHeartbeats 2000000 in
theorem rcheck_any (base : Nat) (m : Mf) (A : Option Addr) (c : Nat) (w : World) (h : m.Ok w base A c) : Calls Tryz.prog 8 #[m.val A c] w fun e w' => e = .returned (.int .i64 (checkP m)) ∧ Ext w w' := by
  have hmost := h.parts.most
  have his : ∀ W, Ext w W → Calls Tryz.prog 31 #[m.val A c] W fun e w' => e = .returned (.bool (isP m)) ∧ Ext W w' := fun W hE => is_any base m A c W (h.ext hE)
  unfold Mf.val at his ⊢
  by_cases h5 : 512 < m.ps.length
  · have hc : checkP m = 3 := by unfold checkP; rw [if_pos h5]
    rw [hc]
    clear hc his
    go_enter Tryz.func8, Tryz.ntmps8
    go_wp2_with fail
    go_ret
    exact ⟨rfl, (Ext.refl w).alloc _⟩
  · cases hi : isP m with
    | true =>
      have hc : checkP m = 0 := by unfold checkP; rw [if_neg h5, hi]; rfl
      rw [hc]
      rw [hi] at his
      replace his := hide his
      clear hc
      go_enter Tryz.func8, Tryz.ntmps8
      go_wp2_with fail
      refine (his.out _ ((Ext.refl w).alloc _)).mono ?_
      rintro e w1 ⟨rfl, hE1⟩
      go_wp2_with fail
      go_ret
      exact ⟨rfl, ((Ext.refl w).alloc _).trans hE1⟩
    | false =>
      have hc : checkP m = 160 := by unfold checkP; rw [if_neg h5, hi]; rfl
      rw [hc]
      rw [hi] at his
      replace his := hide his
      clear hc
      go_enter Tryz.func8, Tryz.ntmps8
      go_wp2_with fail
      refine (his.out _ ((Ext.refl w).alloc _)).mono ?_
      rintro e w1 ⟨rfl, hE1⟩
      go_wp2_with fail
      go_ret
      exact ⟨rfl, ((Ext.refl w).alloc _).trans hE1⟩
def newM : Mf := ⟨[], -9223372036854775808, 0, 1, 1, -9223372036854775808⟩
theorem newM_ok (w : World) (base : Nat) : newM.Ok w base none 0 :=
  ⟨⟨rfl, .inl rfl, nofun, Nat.le_refl _, by show 0 ≤ _; omega, nofun⟩, by unfold I64ok; decide, by unfold I64ok; decide, by unfold I64ok; decide, by unfold I64ok; decide, by unfold I64ok; decide⟩
set_option maxRecDepth 100000 in
theorem new_any (w : World) : Calls Tryz.prog 19 #[] w fun e w' => e = .returned (newM.val none 0) ∧ Ext w w' := by
  unfold Mf.val newM
  go_enter Tryz.func19, Tryz.ntmps19
  go_wp2_with fail
  exact bodyPost_ret (by simp [results, Tryz.results19, go_sem]) rfl ⟨rfl, (Ext.refl w).alloc _⟩
end Go.Proofs.YtaoolpnnomhnoaaGreatDoor

/- slices.Clone of bytes. -/
namespace Go.Proofs.YtaoolpnnomhnoaaGreatDoor
open Go.RowKit Go.Maps

set_option maxRecDepth 100000 in
theorem clone_any (A : Option Addr) (n c : Nat) (l : List UInt8) (w : World) (hn : n = l.length) (hl : Bs w A l) (hz : A = none → c = 0) (hle : n ≤ 1073741824) :
    Calls Tryz.prog 53 #[.slice A n c] w fun e w' => ∃ A1 c1, e = .returned (.slice A1 n c1) ∧ Buf w' w.heap.size 5 A1 n c1 (l.map B8) ∧ Ext w w' := by
  cases A with
  | none =>
    have h0 : l = [] := by
      rcases hl with h | ⟨_, _, h, _⟩
      · simpa using h
      · cases h
    subst h0
    obtain rfl : c = 0 := hz rfl
    obtain rfl : n = 0 := hn
    have hq := nil_eq w
    go_enter Tryz.func53, Tryz.ntmps53
    go_wp2_with fail
    go_ret
    exact ⟨none, 0, rfl, Buf.nil _ _ _, Ext.refl _⟩
  | some a =>
    have hq := nil_ne a n c w
    have ho := own_empty w 5
    have hE0 : Ext w (w.alloc (.cells #[] 5)) := (Ext.refl w).alloc _
    have hb := hl.ext hE0
    have hln : (l.map B8).length = n * 1 := by rw [List.length_map, hn]; omega
    have hsz : w.heap.size ≤ (w.alloc (.cells #[] 5)).heap.size := hE0.size
    replace hln := hide hln
    replace hn := hide hn
    go_enter Tryz.func53, Tryz.ntmps53
    go_wp2_with (at_builtin; refine wpList_app (m := n) elemB ho hb (.tmp 5) (.tmp 6) rfl rfl rfl rfl rfl hln.out (bytes_one _) (by omega) hsz (fun A1 c1 w3 ho3 hg3 hl3 => ?_))
    go_ret
    refine ⟨A1, c1, rfl, ?_, hE0.grown hg3 (fun k hk => by cases hk; exact Nat.le_refl _)⟩
    have := Buf.of_own ho3
    rw [Nat.zero_add] at this
    exact this
end Go.Proofs.YtaoolpnnomhnoaaGreatDoor

/- loggia/varint: Put, PutInt, PutAll. -/
namespace Go.Proofs.YtaoolpnnomhnoaaGreatDoor
open Go.RowKit

theorem vb_round {x m : Nat} {pre : List UInt8} (h : vb x = pre ++ vb m) (hm : 128 ≤ m) : vb x = (pre ++ [UInt8.ofNat (m % 128 + 128)]) ++ vb (m / 128) := by
  rw [h, vb_ge (by omega), List.append_assoc]
  rfl
theorem nat_not (k a : Nat) (h : a < 2 ^ k) : (2 ^ k - 1) ^^^ a = 2 ^ k - 1 - a := by
  apply Nat.eq_of_testBit_eq
  intro i
  rw [Nat.testBit_xor, Nat.testBit_two_pow_sub_one, show 2 ^ k - 1 - a = 2 ^ k - (a + 1) by omega, Nat.testBit_two_pow_sub_succ h]
  by_cases hi : i < k
  · simp [hi]
  · have : a.testBit i = false := Nat.testBit_lt_two_pow (Nat.lt_of_lt_of_le h (Nat.pow_le_pow_right (by omega) (by omega)))
    simp [hi, this]
theorem bits_not64 (a : Nat) (h : a < 18446744073709551616) : bits .xor .u64 IntKind.u64.max (a : Int) = ((18446744073709551615 - a : Nat) : Int) := by
  rw [show IntKind.u64.max = ((18446744073709551615 : Nat) : Int) from rfl, u64_xor_nat _ _ (by omega) h]
  exact congrArg _ (nat_not 64 a h)
theorem bits_not32 (a : Nat) (h : a < 4294967296) : bits .xor .u32 IntKind.u32.max (a : Int) = ((4294967295 - a : Nat) : Int) := by
  rw [show IntKind.u32.max = ((4294967295 : Nat) : Int) from rfl, u32_xor_nat _ _ (by omega) h]
  exact congrArg _ (nat_not 32 a h)
theorem wrap_neg (x : Int) (h : x < 0) (h2 : -9223372036854775808 ≤ x) : IntKind.u64.wrap (IntKind.u64.wrap x * 2) = ((18446744073709551615 - (2 * (-1 - x).toNat + 1) : Nat) : Int) := by
  have e : ∀ y : Int, IntKind.u64.wrap y = y % 18446744073709551616 := fun y => by simp [IntKind.wrap, IntKind.bits, IntKind.signed]
  rw [e, e]
  omega
theorem or_more (m : Nat) : bits .or .u8 ((m : Int) % 256) 128 = ((m % 128 + 128 : Nat) : Int) := by
  have h : ∀ k : Fin 256, k.val ||| 128 = k.val % 128 + 128 := by decide +kernel
  have hk := h ⟨m % 256, by omega⟩
  simp only at hk
  rw [show (m : Int) % 256 = ((m % 256 : Nat) : Int) by omega, show (128 : Int) = ((128 : Nat) : Int) from rfl, u8_or_nat _ _ (by omega) (by omega), hk]
  congr 1
  omega
theorem snoc_B8 (l : List UInt8) {k : Nat} (hk : k < 256) : (l ++ [UInt8.ofNat k]).map B8 = l.map B8 ++ [.int .u8 (k : Int)] := by
  rw [List.map_append, List.map_singleton]
  unfold B8
  rw [UInt8.toNat_ofNat', Nat.mod_eq_of_lt hk]
set_option maxRecDepth 100000 in
set_option maxHeartbeats 1000000 in
theorem put_any (A : Option Addr) (n c x : Nat) (l : List UInt8) (w : World) (hn : n = l.length) (hl : Bs w A l) (hz : A = none → c = 0) (hle : n ≤ 1000000000) (hx : x < 18446744073709551616) :
    Calls Tryz.prog 55 #[.slice A n c, .int .u64 x] w fun e w' => NewB w (l ++ vb x) e w' := by
  have hcl := clone_any A n c l w hn hl hz (by omega)
  have h10 := vb_len10 hx
  replace hcl := hide hcl
  replace hn := hide hn
  clear hl hz
  go_enter Tryz.func55, Tryz.ntmps55
  go_wp2_with fail
  refine hcl.out.mono ?_
  rintro e w1 ⟨A1, c1, rfl, hb1, hE1⟩
  go_wp2_with fail
  go_loopw [1, 5] (fun s1 s5 wr => ∃ (m : Nat) (pre : List UInt8) (A2 : Option Addr) (c2 : Nat), s1 = .int .u64 m ∧ s5 = .slice A2 (n + pre.length) c2 ∧ m < 18446744073709551616 ∧ pre.length ≤ 10 ∧ Hid (vb x = pre ++ vb m) ∧ Hid (Buf wr w.heap.size 5 A2 (n + pre.length) c2 ((l ++ pre).map B8)) ∧ Hid (Ext w wr)) (fun s1 _ _ => (intOf s1).toNat)
  case atStart => exact ⟨x, [], A1, c1, rfl, rfl, hx, by simp, rfl, by rw [List.append_nil]; exact hide hb1, hide hE1⟩
  case round =>
    obtain ⟨m, pre, A2, c2, rfl, rfl, hm, hp, hv, hb, hE⟩ := hrel
    have hsz := hE.out.size
    by_cases h128 : 128 ≤ m
    · have hor := or_more m
      go_wp2_with (at_builtin; refine wpList_bufN elemB hb.out (.tmp 10) (.tmp 14) rfl rfl rfl rfl (one_of rfl) (by simp; omega) hsz (fun A3 c3 w3 hb3 hE3 => ?_))
      go_roundw
      case rel => exact ⟨m / 128, pre ++ [UInt8.ofNat (m % 128 + 128)], A3, c3, by go_num, by rw [List.length_append]; rfl, by omega, (by
        have h1 := congrArg List.length (vb_round hv.out h128)
        have h2 := vb_pos (m / 128)
        rw [List.length_append, List.length_append, List.length_singleton] at h1
        rw [List.length_append, List.length_singleton]
        omega), hide (vb_round hv.out h128), hide (by rw [← List.append_assoc, snoc_B8 _ (by omega), List.length_append]; exact hb3), hide (hE3 w hE.out (Nat.le_refl _))⟩
      case measure => simp [intOf]; omega
    · go_wp2_with (at_builtin; refine wpList_bufN elemB hb.out (.tmp 18) (.tmp 21) rfl rfl rfl rfl (one_of rfl) (by simp; omega) hsz (fun A3 c3 w3 hb3 hE3 => ?_))
      go_ret
      have hl : l ++ vb x = (l ++ pre) ++ [UInt8.ofNat m] := by rw [hv.out, vb_lt (by omega), List.append_assoc]
      have hlen : (l ++ vb x).length = n + pre.length + 1 := by rw [hl, hn.out]; simp; omega
      exact ⟨A3, c3, by rw [hlen]; rfl, by rw [hlen, hl, snoc_B8 _ (by omega)]; exact hb3, hE3 w hE.out (Nat.le_refl _)⟩
set_option maxRecDepth 100000 in
set_option maxHeartbeats 1000000 in
theorem putInt_any (A : Option Addr) (n c : Nat) (x : Int) (l : List UInt8) (w : World) (hn : n = l.length) (hl : Bs w A l) (hz : A = none → c = 0) (hle : n ≤ 1000000000) (hx : -9223372036854775808 ≤ x) (hx2 : x ≤ 9223372036854775807) :
    Calls Tryz.prog 90 #[.slice A n c, .int .i64 x] w fun e w' => NewB w (l ++ vb (zig x)) e w' := by
  have hp := put_any A n c (zig x) l w hn hl hz hle (zig_lt hx hx2)
  have hzd : zig x = if 0 ≤ x then 2 * x.toNat else 2 * (-1 - x).toNat + 1 := rfl
  obtain ⟨Z, hZ⟩ : ∃ Z, Z = zig x := ⟨_, rfl⟩
  rw [← hZ] at hp hzd ⊢
  clear hZ hn hl hz
  replace hp := hide hp
  by_cases h0 : 0 ≤ x
  · rw [if_pos h0] at hzd
    replace hzd := hide hzd
    go_enter Tryz.func90, Tryz.ntmps90
    go_wp2_with fail
    rw [show (x * 2 : Int) = (Z : Int) by have := hzd.out; omega]
    refine hp.out.mono ?_
    rintro e w1 ⟨A1, c1, rfl, hb1, hE1⟩
    go_wp2_with fail
    go_ret
    exact ⟨A1, c1, ret_slice (by rw [List.length_append]), hb1, hE1⟩
  · rw [if_neg h0] at hzd
    have hx64 := zig_lt hx hx2
    unfold zig at hx64
    rw [if_neg h0] at hx64
    have hnot := bits_not64 (18446744073709551615 - (2 * (-1 - x).toNat + 1)) (by omega)
    rw [show 18446744073709551615 - (18446744073709551615 - (2 * (-1 - x).toNat + 1)) = 2 * (-1 - x).toNat + 1 by omega, ← wrap_neg x (by omega) hx, ← hzd] at hnot
    clear hx64
    replace hzd := hide hzd
    replace hnot := hide hnot
    go_enter Tryz.func90, Tryz.ntmps90
    go_wp2_with fail
    rw [hnot.out]
    refine hp.out.mono ?_
    rintro e w1 ⟨A1, c1, rfl, hb1, hE1⟩
    go_wp2_with fail
    go_ret
    exact ⟨A1, c1, ret_slice (by rw [List.length_append]), hb1, hE1⟩
theorem vall_take (xs : List Int) (hx : ∀ x ∈ xs, -9223372036854775808 ≤ x ∧ x ≤ 9223372036854775807) : ∀ i, (vall (xs.take i)).length ≤ 10 * i := by
  induction xs with
  | nil => intro i; simp [vall]
  | cons x xs ih =>
    intro i
    cases i with
    | zero => simp [vall]
    | succ i =>
      have h1 := ih (fun y hy => hx y (List.mem_cons_of_mem _ hy)) i
      have h2 := hx x (List.mem_cons_self ..)
      have h3 := vb_len10 (zig_lt h2.1 h2.2)
      unfold vall at h1 ⊢
      rw [List.take_succ_cons, List.flatMap_cons, List.length_append]
      omega
set_option maxRecDepth 100000 in
set_option maxHeartbeats 1000000 in
theorem putAll_any (A B : Option Addr) (n c k c2 : Nat) (xs : List Int) (l : List UInt8) (w : World) (hn : n = l.length) (hl : Bs w A l) (hz : A = none → c = 0) (hk : k = xs.length) (hxs : Cells w B (xs.map (Value.int .i64))) (hle : n + 10 * k ≤ 1000000000) (hx : ∀ x ∈ xs, -9223372036854775808 ≤ x ∧ x ≤ 9223372036854775807) :
    Calls Tryz.prog 54 #[.slice A n c, .slice B k c2] w fun e w' => NewB w (l ++ vall xs) e w' := by
  have hcl := clone_any A n c l w hn hl hz (by omega)
  have hlen : ∀ i, (vall (xs.take i)).length ≤ 10 * i := vall_take xs hx
  replace hcl := hide hcl
  replace hn := hide hn
  replace hk := hide hk
  replace hx := hide hx
  replace hlen := hide hlen
  clear hl hz
  go_enter Tryz.func54, Tryz.ntmps54
  go_wp2_with fail
  refine hcl.out.mono ?_
  rintro e w1 ⟨A1, c1, rfl, hb1, hE1⟩
  go_wp2_with fail
  go_loopw [5, 12] (fun s5 s12 wr => ∃ (i : Nat) (A2 : Option Addr) (m2 c2 : Nat), s12 = .int .i64 i ∧ i ≤ k ∧ s5 = .slice A2 m2 c2 ∧ Hid (m2 = (l ++ vall (xs.take i)).length) ∧ Hid (Buf wr w.heap.size 5 A2 m2 c2 ((l ++ vall (xs.take i)).map B8)) ∧ Hid (Ext w wr)) (fun _ s12 _ => k - (intOf s12).toNat)
  case atStart => exact ⟨0, A1, n, c1, rfl, by omega, rfl, hide (by rw [hn.out]; simp [vall]), hide (by simpa [vall] using hb1), hide hE1⟩
  case round =>
    obtain ⟨i, A2, m2, c3, rfl, hi, rfl, hm2, hb, hE⟩ := hrel
    by_cases hik : i < k
    · have hik' : i < xs.length := by rw [← hk.out]; exact hik
      obtain ⟨g, o, rfl, hc⟩ := hxs.at_ (by rw [List.length_map]; omega)
      have hxi := hx.out xs[i] (List.getElem_mem hik')
      have hcell := hE.out.cell (hc i (.int .i64 xs[i]) (by rw [List.getElem?_map, List.getElem?_eq_getElem hik']; rfl))
      have hl10 := hlen.out i
      have hpi := putInt_any A2 m2 c3 xs[i] (l ++ vall (xs.take i)) wr hm2.out hb.out.cells hb.out.none_cap (by rw [hm2.out, List.length_append, ← hn.out]; omega) hxi.1 hxi.2
      have hnx : (l ++ vall (xs.take i)) ++ vb (zig xs[i]) = l ++ vall (xs.take (i + 1)) := by
        rw [List.append_assoc, List.take_succ_eq_append_getElem hik']
        unfold vall
        rw [List.flatMap_append]
        simp
      rw [hnx] at hpi
      obtain ⟨X, hX⟩ : ∃ X, X = xs[i] := ⟨_, rfl⟩
      rw [← hX] at hcell hpi hxi
      replace hpi := hide hpi
      clear hX hnx hc hl10
      go_wp2_with fail
      refine hpi.out.mono ?_
      rintro e w3 ⟨A3, c4, rfl, hb3, hE3⟩
      go_wp2_with fail
      go_roundw
      case rel => exact ⟨i + 1, A3, _, c4, by go_num, by omega, rfl, hide (by rw [List.length_append]), hide (by rw [← List.length_append]; exact hb3.lower hE.out.size), hide (hE.out.trans hE3)⟩
      case measure => simp [intOf]; omega
    · have hik2 : i = k := by omega
      have htk : xs.take i = xs := List.take_of_length_le (by rw [hik2, hk.out]; exact Nat.le_refl _)
      rw [htk] at hb hm2
      clear htk hik2
      go_wp2_with fail
      go_ret
      exact ⟨A2, c3, by rw [hm2.out]; rfl, by rw [← hm2.out]; exact hb.out, hE.out⟩
end Go.Proofs.YtaoolpnnomhnoaaGreatDoor

/- loggiaref02: Bytes, Zigzag, Int, All. -/
namespace Go.Proofs.YtaoolpnnomhnoaaGreatDoor
open Go.RowKit

theorem buf_new (w : World) (us : List Value) (t : TypeId) (h : us.length ≤ 9223372036854775807) : Buf (w.alloc (.cells us.toArray t)) w.heap.size t (some ⟨w.heap.size, 0, none⟩) us.length us.length us :=
  ⟨rfl, Nat.le_refl _, .inr ⟨w.heap.size, us.toArray, rfl, Nat.le_refl _, heap_alloc_new w _, by simp, by simp⟩⟩
theorem newB_one (w : World) {k : Nat} (hk : k < 256) : NewB w [UInt8.ofNat k] (.returned (.slice (some ⟨w.heap.size, 0, none⟩) 1 1)) (w.alloc (.cells #[.int .u8 (k : Int)] 5)) := by
  have h := snoc_B8 [] hk
  rw [List.nil_append] at h
  refine ⟨_, _, rfl, ?_, (Ext.refl w).alloc _⟩
  rw [h]
  exact buf_new w [.int .u8 (k : Int)] 5 (by simp)
set_option maxRecDepth 100000 in
set_option maxHeartbeats 1000000 in
theorem rbytes_any (k : Nat) : ∀ (n : Nat) (w : World), n < 128 ^ (k + 1) → n < 18446744073709551616 → Calls Tryz.prog 82 #[.int .u64 n] w fun e w' => NewB w (vb n) e w' := by
  induction k with
  | zero =>
    intro n w h1 h2
    have h3 : n < 128 := by simpa using h1
    rw [vb_lt h3]
    clear h1
    go_enter Tryz.func82, Tryz.ntmps82
    go_wp2_with fail
    go_ret
    exact newB_one w (by omega)
  | succ k ih =>
    intro n w h1 h2
    by_cases h3 : n < 128
    · rw [vb_lt h3]
      clear h1 ih
      go_enter Tryz.func82, Tryz.ntmps82
      go_wp2_with fail
      go_ret
      exact newB_one w (by omega)
    · obtain ⟨q, hq⟩ : ∃ q, q = n % 128 + 128 := ⟨_, rfl⟩
      obtain ⟨m, hm⟩ : ∃ m, m = n / 128 := ⟨_, rfl⟩
      have hih := ih m (w.alloc (.cells #[.int .u8 (q : Int)] 5)) (by rw [Nat.pow_succ] at h1; omega) (by omega)
      have hb0 := buf_new w [.int .u8 (q : Int)] 5 (by simp)
      have h10 := vb_len10 (n := m) (by omega)
      have hE0 : Ext w (w.alloc (.cells #[.int .u8 (q : Int)] 5)) := (Ext.refl w).alloc _
      have hsn : B8 (UInt8.ofNat q) = .int .u8 (q : Int) := by unfold B8; rw [UInt8.toNat_ofNat', Nat.mod_eq_of_lt (by omega)]
      have hvb := vb_ge h3
      rw [← hq, ← hm] at hvb
      have hv1 : ((n : Int) % 128 + 128) = (q : Int) := by omega
      have hv2 : (n : Int) / 128 = (m : Int) := by omega
      have hq2 : q < 256 := by omega
      clear h1 ih hq hm
      replace hih := hide hih
      replace hb0 := hide hb0
      replace hE0 := hide hE0
      replace hsn := hide hsn
      replace hvb := hide hvb
      go_enter Tryz.func82, Tryz.ntmps82
      go_wp2_with fail
      refine hih.out.mono ?_
      rintro e w1 ⟨A1, c1, rfl, hb1, hE1⟩
      have hb2 := hb0.out.ext hE1
      have hE2 := hE0.out.trans hE1
      have hsz := hE2.size
      go_wp2_with (at_builtin; refine wpList_buf elemB hb2 hb1.cells (.tmp 12) (.tmp 15) rfl rfl rfl rfl rfl (by rw [List.length_map]) (bytes_one _) (by simp; omega) hsz (fun A3 c3 w3 hb3 _ hE3 _ => ?_))
      go_ret
      rw [hvb.out]
      refine ⟨A3, c3, ret_slice (by rw [List.length_cons, Nat.add_comm]), ?_, hE3 w hE2 (Nat.le_refl _)⟩
      have : (UInt8.ofNat q :: vb m).map B8 = [.int .u8 (q : Int)] ++ (vb m).map B8 := by rw [List.map_cons, hsn.out]; rfl
      rw [this, List.length_cons, Nat.add_comm]
      exact hb3
theorem rbytes (n : Nat) (w : World) (h : n < 18446744073709551616) : Calls Tryz.prog 82 #[.int .u64 n] w fun e w' => NewB w (vb n) e w' := rbytes_any 9 n w (by omega) h
set_option maxRecDepth 100000 in
set_option maxHeartbeats 1000000 in
theorem zigzag_any (x : Int) (w : World) (hx : -9223372036854775808 ≤ x) (hx2 : x ≤ 9223372036854775807) : Calls Tryz.prog 127 #[.int .i64 x] w fun e w' => e = .returned (.int .u64 (zig x)) ∧ w' = w := by
  go_enter Tryz.func127, Tryz.ntmps127
  go_wp2_with fail
  all_goals go_ret
  all_goals exact ⟨ret_int (by unfold zig; first | (rw [if_pos (by omega)]; omega) | (rw [if_neg (by omega)]; omega)), rfl⟩
set_option maxRecDepth 100000 in
set_option maxHeartbeats 1000000 in
theorem rint_any (x : Int) (w : World) (hx : -9223372036854775808 ≤ x) (hx2 : x ≤ 9223372036854775807) : Calls Tryz.prog 102 #[.int .i64 x] w fun e w' => NewB w (vb (zig x)) e w' := by
  have hz := hide (fun w => zigzag_any x w hx hx2)
  have hb := hide (fun w => rbytes (zig x) w (zig_lt hx hx2))
  go_enter Tryz.func102, Tryz.ntmps102
  go_wp2_with fail
  refine (hz.out _).mono ?_
  rintro e w1 ⟨rfl, rfl⟩
  go_wp2_with fail
  refine (hb.out _).mono ?_
  rintro e w2 ⟨A, c, rfl, hb2, hE⟩
  go_wp2_with fail
  go_ret
  exact ⟨A, c, rfl, hb2, hE⟩
set_option maxRecDepth 100000 in
set_option maxHeartbeats 1000000 in
theorem rall_any (B : Option Addr) (k c2 : Nat) (xs : List Int) (w : World) (hk : k = xs.length) (hxs : Cells w B (xs.map (Value.int .i64))) (hle : k ≤ 100000000) (hx : ∀ x ∈ xs, -9223372036854775808 ≤ x ∧ x ≤ 9223372036854775807) :
    Calls Tryz.prog 81 #[.slice B k c2] w fun e w' => NewB w (vall xs) e w' := by
  have hlen : ∀ i, (vall (xs.take i)).length ≤ 10 * i := vall_take xs hx
  replace hk := hide hk
  replace hx := hide hx
  replace hlen := hide hlen
  go_enter Tryz.func81, Tryz.ntmps81
  go_wp2_with fail
  go_loopw [3, 4] (fun s3 s4 wr => ∃ (i : Nat) (A2 : Option Addr) (m2 c2 : Nat), s4 = .int .i64 i ∧ i ≤ k ∧ s3 = .slice A2 m2 c2 ∧ Hid (m2 = (vall (xs.take i)).length) ∧ Hid (Buf wr w.heap.size 5 A2 m2 c2 ((vall (xs.take i)).map B8)) ∧ Hid (Ext w wr)) (fun _ s4 _ => k - (intOf s4).toNat)
  case atStart => exact ⟨0, none, 0, 0, rfl, by omega, rfl, hide rfl, hide (Buf.nil _ _ _), hide (Ext.refl w)⟩
  case round =>
    obtain ⟨i, A2, m2, c3, rfl, hi, rfl, hm2, hb, hE⟩ := hrel
    by_cases hik : i < k
    · have hik' : i < xs.length := by rw [← hk.out]; exact hik
      obtain ⟨g, o, rfl, hc⟩ := hxs.at_ (by rw [List.length_map]; omega)
      have hxi := hx.out xs[i] (List.getElem_mem hik')
      have hcell := hE.out.cell (hc i (.int .i64 xs[i]) (by rw [List.getElem?_map, List.getElem?_eq_getElem hik']; rfl))
      have hl10 := hlen.out i
      have hpi := fun w => rint_any xs[i] w hxi.1 hxi.2
      have hnx : vall (xs.take i) ++ vb (zig xs[i]) = vall (xs.take (i + 1)) := by
        rw [List.take_succ_eq_append_getElem hik']
        unfold vall
        rw [List.flatMap_append]
        simp
      have hvz := vb_len10 (zig_lt hxi.1 hxi.2)
      have hm3 : m2 ≤ 10 * i := by rw [hm2.out]; exact hl10
      obtain ⟨X, hX⟩ : ∃ X, X = xs[i] := ⟨_, rfl⟩
      rw [← hX] at hcell hpi hxi hvz hnx
      replace hpi := hide hpi
      replace hnx := hide hnx
      clear hX hc hl10
      go_wp2_with fail
      refine (hpi.out _).mono ?_
      rintro e w3 ⟨A3, c4, rfl, hb3, hE3⟩
      have hb2 := hb.out.ext hE3
      have hE4 := hE.out.trans hE3
      have hsz := hE4.size
      go_wp2_with (at_builtin; refine wpList_buf elemB hb2 hb3.cells (.tmp 11) (.tmp 16) rfl rfl rfl rfl rfl (by rw [List.length_map]) (bytes_one _) (by omega) hsz (fun A5 c5 w5 hb5 _ hE5 _ => ?_))
      go_roundw
      case rel => exact ⟨i + 1, A5, _, c5, by go_num, by omega, rfl, hide (by rw [← hnx.out, List.length_append, hm2.out]), hide (by rw [← hnx.out, List.map_append]; exact hb5), hide (hE5 w hE4 (Nat.le_refl _))⟩
      case measure => simp [intOf]; omega
    · have hik2 : i = k := by omega
      have htk : xs.take i = xs := List.take_of_length_le (by rw [hik2, hk.out]; exact Nat.le_refl _)
      rw [htk] at hb hm2
      clear htk hik2
      go_wp2_with fail
      go_ret
      exact ⟨A2, c3, by rw [← hm2.out]; rfl, by rw [← hm2.out]; exact hb.out, hE.out⟩
end Go.Proofs.YtaoolpnnomhnoaaGreatDoor

/- loggia/varint: Get. -/
namespace Go.Proofs.YtaoolpnnomhnoaaGreatDoor
open Go.RowKit

/-- A slice of bytes that may be read. -/
structure In8 (w : World) (A : Option Addr) (n c : Nat) (l : List UInt8) : Prop where
  len : n = l.length
  bytes : Bs w A l
  cap : n ≤ c
  nil_ : A = none → c = 0
  at_ : ∀ a, A = some a → a.spot = Option.none ∧ a.block < w.heap.size
theorem In8.ext {w w1 : World} {A : Option Addr} {n c : Nat} {l : List UInt8} (h : In8 w A n c l) (hE : Ext w w1) : In8 w1 A n c l :=
  ⟨h.len, h.bytes.ext hE, h.cap, h.nil_, fun a ha => ⟨(h.at_ a ha).1, Nat.lt_of_lt_of_le (h.at_ a ha).2 hE.size⟩⟩
theorem Buf.in8 {w : World} {base : Nat} {e : TypeId} {A : Option Addr} {n c : Nat} {l : List UInt8} (h : Buf w base e A n c (l.map B8)) : In8 w A n c l := by
  refine ⟨by have := h.1; simpa using this.symm, h.cells, h.2.1, h.none_cap, fun a ha => ⟨?_, h.lt a ha⟩⟩
  rcases h.2.2 with ⟨h0, _⟩ | ⟨g, cur, hA, _⟩
  · rw [h0] at ha; cases ha
  · rw [hA] at ha; cases ha; rfl
def comb (i acc : Nat) : Except Nat (Nat × List UInt8) → Except Nat (Nat × List UInt8)
  | .ok (n, r) => .ok (acc + 128 ^ i * n, r)
  | .error e => .error e
theorem comb_zero (x : Except Nat (Nat × List UInt8)) : comb 0 0 x = x := by
  unfold comb
  split <;> simp
def Got (w0 w : World) (res : Except Nat (Nat × List UInt8)) (e : Ending) (w' : World) : Prop := Ext w w' ∧ match res with
  | .ok (v, r) => ∃ A c, e = .returned (.tuple #[.int .u64 v, .slice A r.length c, .int .i64 0]) ∧ In8 w0 A r.length c r
  | .error k => e = .returned (.tuple #[.int .u64 0, .slice none 0 0, .int .i64 k])
set_option maxRecDepth 100000 in
theorem run_head1 {n c k : Nat} {A : Option Addr} (h : k ≤ c) (hA : ∀ a, A = some a → a.spot = none) (W : World) :
    (Instr.sliceAt 57 (.slice A n c) none (some (.int .i64 k)) none).run Tryz.prog W = .ok (.slice A k c) W := by
  have ht := Tryz.underlying57
  have he : Tryz.prog.elem 57 = 5 := by unfold Program.elem; rw [ht]
  have hs : ∀ W : World, (sizeOf 5).run Tryz.prog W = .ok 1 W := fun W => by kernel_rfl
  rw [run_sliceAt_slice W _ _ _ _ _ (by rw [ht, he]), run_slice_h W _ A n c (by rw [ht, he]) .i64 k (by omega) (by omega), he, hs]
  simp only [Result.andThen_ok]
  congr 1
  unfold sliced
  have : (if c = 0 then A else A.map fun x => x.add (0 * 1)) = A := by
    cases A with
    | none => simp
    | some a =>
      obtain ⟨b, o, sp⟩ := a
      obtain rfl : sp = none := hA _ rfl
      simp [Addr.add_lit]
  rw [this]
  simp
set_option maxRecDepth 100000 in
theorem In8.from_ {w : World} {A : Option Addr} {n c : Nat} {l : List UInt8} (h : In8 w A n c l) {fr : Nat} (hf : fr ≤ n) {z : Int} (hz : z = (fr : Int)) :
    ∃ A' c', (∀ W : World, (Instr.sliceAt 57 (.slice A n c) (some (.int .i64 z)) none none).run Tryz.prog W = .ok (.slice A' (n - fr) c') W) ∧ In8 w A' (n - fr) c' (l.drop fr) := by
  subst hz
  have ht := Tryz.underlying57
  have he : Tryz.prog.elem 57 = 5 := by unfold Program.elem; rw [ht]
  have hs : ∀ W : World, (sizeOf 5).run Tryz.prog W = .ok 1 W := fun W => by kernel_rfl
  have hrun : ∀ W : World, (Instr.sliceAt 57 (.slice A n c) (some (.int .i64 fr)) none none).run Tryz.prog W = .ok (sliced A fr n c 1) W := by
    intro W
    rw [run_sliceAt_slice W _ _ _ _ _ (by rw [ht, he]), run_slice_l W _ A n c (by rw [ht, he]) .i64 fr (by omega) (by omega), he, hs]
    simp only [Result.andThen_ok]
    congr 1
  have hcap := h.cap
  refine ⟨_, _, hrun, by rw [List.length_drop, ← h.len], ?_, by omega, ?_, ?_⟩
  · rcases h.bytes with hb | ⟨g, o, rfl, hb⟩
    · left
      have : l = [] := by simpa using hb
      rw [this]
      simp
    · by_cases hcf : c = fr
      · left
        have := h.len
        rw [List.drop_of_length_le (by omega)]
        rfl
      · refine .inr ⟨g, o + fr, by rw [if_neg hcf]; simp [Addr.add_lit], fun i v hv => ?_⟩
        rw [Nat.add_assoc]
        refine hb (fr + i) v ?_
        rw [List.getElem?_map] at hv ⊢
        rw [List.getElem?_drop] at hv
        exact hv
  · intro hn
    cases A with
    | none => have := h.nil_ rfl; omega
    | some a => split at hn <;> cases hn
  · intro a ha
    cases A with
    | none => split at ha <;> cases ha
    | some b =>
      obtain ⟨h1, h2⟩ := h.at_ b rfl
      obtain ⟨b, o, sp⟩ := b
      obtain rfl : sp = Option.none := h1
      split at ha
      · cases ha; exact ⟨rfl, h2⟩
      · cases ha
        show (Addr.add ⟨b, o, none⟩ (fr * 1)).spot = none ∧ (Addr.add ⟨b, o, none⟩ (fr * 1)).block < w.heap.size
        rw [Addr.add_lit]
        exact ⟨rfl, h2⟩
theorem getV_get {l : List UInt8} {i : Nat} {x : UInt8} (h : l[i]? = some x) (h10 : i < 10) (acc : Nat) : comb i acc (getV i (l.drop i)) = if (i = 9 ∧ 1 < x.toNat) ∨ (0 < i ∧ x.toNat = 0) then .error 20 else
    if x.toNat < 128 then .ok (acc + 128 ^ i * x.toNat, l.drop (i + 1)) else comb (i + 1) (acc + 128 ^ i * (x.toNat - 128)) (getV (i + 1) (l.drop (i + 1))) := by
  have hi := (List.getElem?_eq_some_iff.1 h).1
  have h2 := (List.getElem?_eq_some_iff.1 h).2
  rw [List.drop_eq_getElem_cons hi, h2]
  conv => lhs; unfold getV
  rw [if_neg (by omega)]
  by_cases hb : (i = 9 ∧ 1 < x.toNat) ∨ (0 < i ∧ x.toNat = 0)
  · rw [if_pos hb, if_pos hb]; rfl
  · rw [if_neg hb, if_neg hb]
    by_cases h128 : x.toNat < 128
    · rw [if_pos h128, if_pos h128]; rfl
    · rw [if_neg h128, if_neg h128]
      unfold comb
      cases getV (i + 1) (l.drop (i + 1)) with
      | error e => rfl
      | ok p =>
        obtain ⟨n, r⟩ := p
        simp only
        rw [Nat.mul_add, Nat.pow_succ, Nat.add_assoc, Nat.mul_assoc]
theorem getV_end {l : List UInt8} {i : Nat} (h : l.length ≤ i ∨ 10 ≤ i) (acc : Nat) : comb i acc (getV i (l.drop i)) = .error 6 := by
  rcases h with h | h
  · rw [List.drop_of_length_le h]; rfl
  · cases l.drop i with
    | nil => rfl
    | cons x r => unfold getV; rw [if_pos h]; rfl
theorem or_bits {i acc y : Nat} (hi : i ≤ 9) (ha : acc < 128 ^ i) (hy : y < 128) (h9 : i = 9 → y ≤ 1) : bits .or .u64 (acc : Int) (IntKind.u64.wrap ((y : Int) * 2 ^ (7 * i))) = ((acc + 128 ^ i * y : Nat) : Int) := by
  have e : ∀ y : Int, IntKind.u64.wrap y = y % 18446744073709551616 := fun y => by simp [IntKind.wrap, IntKind.bits, IntKind.signed]
  have hp : (128 : Nat) ^ i = 2 ^ (7 * i) := by rw [show (128 : Nat) = 2 ^ 7 from rfl, ← Nat.pow_mul]
  rw [hp] at ha ⊢
  have hlt : y * 2 ^ (7 * i) < 18446744073709551616 := by
    rcases Nat.lt_or_ge i 9 with h | h
    · have h1 : 2 ^ (7 * i) ≤ 2 ^ 56 := Nat.pow_le_pow_right (by omega) (by omega)
      have h2 : y * 2 ^ (7 * i) ≤ 127 * 2 ^ 56 := Nat.mul_le_mul (by omega) h1
      omega
    · obtain rfl : i = 9 := by omega
      have := h9 rfl
      have h2 : y * 2 ^ (7 * 9) ≤ 1 * 2 ^ 63 := Nat.mul_le_mul this (Nat.le_refl _)
      omega
  have ha2 : acc < 18446744073709551616 := Nat.lt_of_lt_of_le ha (by
    have : 2 ^ (7 * i) ≤ 2 ^ 63 := Nat.pow_le_pow_right (by omega) (by omega)
    omega)
  have hc : IntKind.u64.wrap ((y : Int) * 2 ^ (7 * i)) = ((y * 2 ^ (7 * i) : Nat) : Int) := by
    rw [e]
    have : (y : Int) * 2 ^ (7 * i) = ((y * 2 ^ (7 * i) : Nat) : Int) := by simp
    rw [this]
    omega
  rw [hc, u64_or_nat _ _ ha2 hlt]
  have := Nat.shiftLeft_add_eq_or_of_lt ha y
  rw [Nat.shiftLeft_eq] at this
  rw [Nat.or_comm, ← this, Nat.add_comm, Nat.mul_comm y]
theorem acc_lt {i acc y : Nat} (ha : acc < 128 ^ i) (hy : y < 128) : acc + 128 ^ i * y < 128 ^ (i + 1) := by
  have h := Nat.mul_le_mul_left (128 ^ i) (show y + 1 ≤ 128 by omega)
  rw [Nat.mul_add, Nat.mul_one] at h
  rw [Nat.pow_succ]
  omega
theorem got_ok {w0 w w' : World} {res : Except Nat (Nat × List UInt8)} {v : Nat} {r : List UInt8} {A : Option Addr} {m c : Nat} {E : Int} (hr : res = .ok (v, r)) (hE : Ext w w') (hi : In8 w0 A m c r) (hv : E = (v : Int)) : Got w0 w res (.returned (.tuple #[.int .u64 E, .slice A m c, .int .i64 0])) w' := by
  subst hr hv
  have := hi.len
  subst this
  exact ⟨hE, A, c, rfl, hi⟩
theorem got_err {w0 w w' : World} {res : Except Nat (Nat × List UInt8)} {k : Nat} (hr : res = .error k) (hE : Ext w w') : Got w0 w res (.returned (.tuple #[.int .u64 0, .slice none 0 0, .int .i64 k])) w' := by
  subst hr
  exact ⟨hE, rfl⟩
theorem and_low {x : Nat} (h : x < 256) : bits .and .u8 (x : Int) 127 = ((x % 128 : Nat) : Int) := by
  have hf : ∀ k : Fin 256, k.val &&& 127 = k.val % 128 := by decide +kernel
  have hk := hf ⟨x, h⟩
  simp only at hk
  rw [show (127 : Int) = ((127 : Nat) : Int) from rfl, u8_and_nat _ _ (by omega) (by omega), hk]
set_option maxRecDepth 100000 in
set_option maxHeartbeats 2000000 in
theorem get_any (A : Option Addr) (n c : Nat) (l : List UInt8) (w0 w : World) (h : In8 w0 A n c l) (hw : Ext w0 w) (hle : n ≤ 1000000000) :
    Calls Tryz.prog 98 #[.slice A n c] w fun e w' => Got w0 w (getV 0 l) e w' := by
  obtain ⟨k, hk⟩ : ∃ k : Nat, (k : Int) = min (n : Int) 10 := ⟨min n 10, by omega⟩
  have hcap := h.cap
  have hmin := fun (W : World) => run_min2 (P := Tryz.prog) #[3, 3] 3 hk W
  have hhd := fun (W : World) => run_head1 (n := n) (c := c) (k := k) (A := A) (by omega) (fun a ha => (h.at_ a ha).1) W
  have hk1 : k ≤ 10 := by omega
  have hk2 : k ≤ n := by omega
  have hk3 : n ≤ k ∨ 10 ≤ k := by omega
  replace hk := hide hk
  replace hk3 := hide hk3
  replace h := hide h
  go_enter Tryz.func98, Tryz.ntmps98
  go_wp2_with fail
  go_step3
  go_wp2_with fail
  go_step3
  go_wp2_with fail
  go_loopw [2, 4, 13] (fun s2 s4 s13 wr => ∃ (i acc : Nat), s13 = .int .i64 i ∧ s2 = .int .u64 acc ∧ s4 = .int .i64 6 ∧ i ≤ k ∧ acc < 128 ^ i ∧ Hid (getV 0 l = comb i acc (getV i (l.drop i))) ∧ Hid (Ext w wr)) (fun _ _ s13 _ => k - (intOf s13).toNat)
  case atStart => exact ⟨0, 0, rfl, rfl, rfl, by omega, by simp, hide (by rw [comb_zero]; rfl), hide (Ext.refl w)⟩
  case round =>
    obtain ⟨i, acc, rfl, rfl, rfl, hi, hacc, hg, hE⟩ := hrel
    by_cases hik : i < k
    · have hil : i < l.length := by rw [← h.out.len]; omega
      obtain ⟨g, o, rfl, hc⟩ := h.out.bytes.at_ (by omega)
      have hcell := (hw.trans hE.out).cell (hc i hil)
      have hgg := getV_get (List.getElem?_eq_getElem hil) (by omega) acc
      rw [← hg.out] at hgg
      obtain ⟨x, hx⟩ : ∃ x, x = l[i].toNat := ⟨_, rfl⟩
      have hx256 : x < 256 := by rw [hx]; exact l[i].toNat_lt
      rw [← hx] at hcell hgg
      replace hx := hide hx
      replace hgg := hide hgg
      have hand := and_low hx256
      obtain ⟨y, hy⟩ : ∃ y, y = x % 128 := ⟨_, rfl⟩
      rw [← hy] at hand
      replace hy := hide hy
      obtain ⟨A', c', hrun, hin⟩ := h.out.from_ (fr := i + 1) (by omega) (z := (i : Int) + 1) (by omega)
      have hor := fun h9 : i = 9 → y ≤ 1 => or_bits (i := i) (acc := acc) (y := y) (by omega) hacc (by have := hy.out; omega) h9
      replace hor := hide hor
      have hin' := hide hin
      clear hc hg hin
      have hnx := fun (h1 : ¬((i = 9 ∧ 1 < x) ∨ (0 < i ∧ x = 0))) (h2 : 128 ≤ x) => hgg.out.trans ((if_neg h1).trans (if_neg (by omega)))
      have hok := fun (h1 : ¬((i = 9 ∧ 1 < x) ∨ (0 < i ∧ x = 0))) (h2 : x < 128) => hgg.out.trans ((if_neg h1).trans (if_pos h2))
      have hbad := fun (h1 : (i = 9 ∧ 1 < x) ∨ (0 < i ∧ x = 0)) => hgg.out.trans (if_pos h1)
      have hyy : y < 128 := by have := hy.out; omega
      have hyx : x < 128 → y = x := fun h => by have := hy.out; omega
      have hyx2 : 128 ≤ x → y = x - 128 := fun h => by have := hy.out; omega
      have hz : ((x : Int) == 0) = true → x = 0 := fun h => by simp at h; omega
      have hz2 : ((x : Int) == 0) = false → x ≠ 0 := fun h => by simp at h; omega
      replace hnx := hide hnx
      replace hok := hide hok
      replace hbad := hide hbad
      replace hyx := hide hyx
      replace hyx2 := hide hyx2
      replace hz := hide hz
      replace hz2 := hide hz2
      by_cases h9 : i = 9
      · subst h9
        have hor9 : y ≤ 1 → bits .or .u64 (acc : Int) (IntKind.u64.wrap ((y : Int) * 9223372036854775808)) = ((acc + 128 ^ 9 * y : Nat) : Int) := fun hy1 => by
          have e : (2 : Int) ^ (7 * 9) = 9223372036854775808 := by simp
          have := hor.out fun _ => hy1
          rw [e] at this
          exact this
        replace hor9 := hide hor9
        obtain ⟨A9, c9, hrun9, hin9⟩ := h.out.from_ (fr := 10) (by omega) (z := 10) rfl
        replace hin9 := hide hin9
        clear hrun hin'
        go_wp2_with fail
        · go_ret3
          exact got_err (hbad.out (.inl ⟨by trivial, by omega⟩)) hE.out
        · go_ret3
          exact got_err (hbad.out (.inr ⟨by omega, hz.out (by assumption)⟩)) hE.out
        · refine wp_region_text follows (by kernel_rfl) (by kernel_rfl) (fun K hK => ?_)
          go_wp2_with fail
          refine ⟨by kernel_rfl, ?_⟩
          go_wp2_with fail
          go_ret3
          have hx1 : x ≤ 1 := by omega
          exact got_ok (hok.out (by have := hz2.out (by assumption); omega) (by omega)) hE.out.drew hin9.out (by rw [hor9.out (by have := hyx.out (by omega); omega), hyx.out (by omega)])
      · go_wp2_with fail
        · rw [Exit.noGoto_ret]
          go_ret3
          exact got_err (hbad.out (.inr ⟨by omega, hz.out (by assumption)⟩)) hE.out
        · refine wp_region_text follows (by kernel_rfl) (by kernel_rfl) (fun K hK => ?_)
          go_wp2_with fail
          refine ⟨by kernel_rfl, ?_⟩
          go_wp2_with fail
          rw [Exit.noGoto_ret]
          go_ret3
          exact got_ok (hok.out (by have := hz2.out (by assumption); omega) (by omega)) hE.out.drew hin'.out (by rw [hor.out (by omega), hyx.out (by omega)])
        · go_roundw
          case rel => exact ⟨i + 1, acc + 128 ^ i * y, by go_num, by rw [hor.out (by omega)], rfl, by omega, acc_lt hacc hyy, hide (by rw [hnx.out (by omega) (by omega), hyx2.out (by omega)]), hE⟩
          case measure => simp [intOf]; omega
        · refine wp_region_text follows (by kernel_rfl) (by kernel_rfl) (fun K hK => ?_)
          go_wp2_with fail
          refine ⟨by kernel_rfl, ?_⟩
          go_wp2_with fail
          rw [Exit.noGoto_ret]
          go_ret3
          exact got_ok (hok.out (by omega) (by omega)) hE.out.drew hin'.out (by rw [hor.out (by omega), hyx.out (by omega)])
        · go_roundw
          case rel => exact ⟨i + 1, acc + 128 ^ i * y, by go_num, by rw [hor.out (by omega)], rfl, by omega, acc_lt hacc hyy, hide (by rw [hnx.out (by omega) (by omega), hyx2.out (by omega)]), hE⟩
          case measure => simp [intOf]; omega
    · have hii : i = k := by omega
      have hge := getV_end (l := l) (i := i) (by rw [← h.out.len, hii]; exact hk3.out) acc
      rw [← hg.out] at hge
      replace hge := hide hge
      replace hii := hide hii
      go_wp2_with fail
      rw [Exit.noGoto_ret]
      go_ret3
      exact got_err hge.out hE.out
end Go.Proofs.YtaoolpnnomhnoaaGreatDoor

/- loggia/crc: table, Next; loggiaref03: on, Next, Of. -/
namespace Go.Proofs.YtaoolpnnomhnoaaGreatDoor
open Go.RowKit

def citer : Nat → Nat → Nat
  | 0, y => y
  | k + 1, y => citer k (cstep y)
theorem citer8 (y : Nat) : c8 y = citer 8 y := rfl
theorem citer_step {z v j : Nat} (h : z = citer (8 - j) v) (hj : j < 8) : z = citer (8 - (j + 1)) (cstep v) := by
  rw [h, show 8 - j = (8 - (j + 1)) + 1 by omega]
  rfl
theorem citer_end {z v j : Nat} (h : z = citer (8 - j) v) (hj : 8 ≤ j) : z = v := by
  rw [h, show 8 - j = 0 by omega]
  rfl
theorem cstep_odd {v : Nat} (h : v % 2 = 1) : cstep v = (v / 2) ^^^ 3988292384 := by unfold cstep; rw [if_pos h]
theorem cstep_even {v : Nat} (h : v % 2 = 0) : cstep v = v / 2 := by unfold cstep; rw [if_neg (by omega)]
theorem xor_poly {d : Nat} (h : d < 4294967296) : bits .xor .u32 (d : Int) 3988292384 = ((d ^^^ 3988292384 : Nat) : Int) := by
  rw [show (3988292384 : Int) = ((3988292384 : Nat) : Int) from rfl, u32_xor_nat _ _ h (by omega)]
set_option maxRecDepth 100000 in
set_option maxHeartbeats 1000000 in
theorem on_any (x c : Nat) (w : World) (hx : x < 4294967296) (hc : c < 256) : Calls Tryz.prog 128 #[.int .u32 x, .int .u8 c] w fun e w' => e = .returned (.int .u32 (c8 (x ^^^ c) : Nat)) ∧ w' = w := by
  have hxor : bits .xor .u32 (x : Int) (c : Int) = ((x ^^^ c : Nat) : Int) := u32_xor_nat _ _ hx (by omega)
  have hlt : x ^^^ c < 4294967296 := Nat.xor_lt_two_pow (n := 32) hx (by omega)
  obtain ⟨y, hy⟩ : ∃ y, y = x ^^^ c := ⟨_, rfl⟩
  rw [← hy] at hxor hlt ⊢
  obtain ⟨z, hz⟩ : ∃ z, z = c8 y := ⟨_, rfl⟩
  rw [← hz]
  rw [citer8] at hz
  replace hz := hide hz
  clear hy
  go_enter Tryz.func128, Tryz.ntmps128
  go_wp2_with fail
  go_loop [0, 5] (fun s0 s5 => ∃ (j v : Nat), s5 = .int .i64 j ∧ j ≤ 8 ∧ s0 = .int .u32 v ∧ v < 4294967296 ∧ Hid (z = citer (8 - j) v)) (fun _ s5 => 8 - (intOf s5).toNat)
  case atStart => exact ⟨0, y, rfl, by omega, rfl, hlt, hz⟩
  case round =>
    obtain ⟨j, v, rfl, hj, rfl, hv, hzv⟩ := hrel
    by_cases hj8 : j < 8
    · have hn := citer_step hzv.out hj8
      have hcl := cstep_lt hv
      replace hn := hide hn
      rcases Nat.mod_two_eq_zero_or_one v with hm | hm
      · have hs := cstep_even hm
        have hm2 : (v : Int) % 2 = 0 := by omega
        rw [hs] at hn hcl
        clear hm hs hzv
        go_wp2_with fail
        go_round
        case rel => exact ⟨j + 1, v / 2, by go_num, by omega, by go_num, hcl, hn⟩
        case measure => simp [intOf]; omega
      · have hs := cstep_odd hm
        have hm2 : (v : Int) % 2 = 1 := by omega
        obtain ⟨d, hd⟩ : ∃ d, d = v / 2 := ⟨_, rfl⟩
        have hdv : (v : Int) / 2 = (d : Int) := by omega
        have hxp := xor_poly (d := d) (by omega)
        rw [hs, ← hd] at hn hcl
        obtain ⟨q, hq⟩ : ∃ q, q = d ^^^ 3988292384 := ⟨_, rfl⟩
        rw [← hq] at hn hcl hxp
        clear hm hs hzv hd hq
        go_wp2_with fail
        go_round
        case rel => exact ⟨j + 1, q, by go_num, by omega, rfl, hcl, hn⟩
        case measure => simp [intOf]; omega
    · have hn := citer_end hzv.out (by omega)
      replace hn := hide hn
      clear hzv
      go_wp2_with fail
      go_ret
      exact ⟨by rw [hn.out]; rfl, rfl⟩
set_option maxRecDepth 100000 in
set_option maxHeartbeats 1000000 in
theorem rnext_any (A : Option Addr) (s n c : Nat) (l : List UInt8) (w0 w : World) (hb : In8 w0 A n c l) (hw : Ext w0 w) (hs : s < 4294967296) (hle : n ≤ 1000000000) :
    Calls Tryz.prog 103 #[.int .u32 s, .slice A n c] w fun e w' => e = .returned (.int .u32 (cnext s l : Nat)) ∧ w' = w := by
  have hnot := bits_not32 s hs
  have hcl : cnot s < 4294967296 := by unfold cnot; omega
  rw [show 4294967295 - s = cnot s from rfl] at hnot
  obtain ⟨y, hy⟩ : ∃ y, y = cnot s := ⟨_, rfl⟩
  rw [← hy] at hnot hcl
  have hr : cnext s l = 4294967295 - l.foldl con y := by unfold cnext; rw [← hy]; rfl
  replace hr := hide hr
  clear hy
  replace hb := hide hb
  go_enter Tryz.func103, Tryz.ntmps103
  go_wp2_with fail
  go_loop [0, 5] (fun s0 s5 => ∃ (i v : Nat), s5 = .int .i64 i ∧ i ≤ n ∧ s0 = .int .u32 v ∧ v < 4294967296 ∧ Hid (l.foldl con y = (l.drop i).foldl con v)) (fun _ s5 => n - (intOf s5).toNat)
  case atStart => exact ⟨0, y, rfl, by omega, rfl, hcl, rfl⟩
  case round =>
    obtain ⟨i, v, rfl, hi, rfl, hv, hf⟩ := hrel
    by_cases hin : i < n
    · have hil : i < l.length := by rw [← hb.out.len]; omega
      obtain ⟨g, o, rfl, hc⟩ := hb.out.bytes.at_ (by omega)
      have hcell := hw.cell (hc i hil)
      have hon := hide (fun w => on_any v l[i].toNat w hv l[i].toNat_lt)
      have hn : l.foldl con y = (l.drop (i + 1)).foldl con (con v l[i]) := by rw [hf.out, List.drop_eq_getElem_cons hil]; rfl
      have hcl2 := con_lt l[i] hv
      unfold con at hn hcl2
      replace hn := hide hn
      clear hc hf
      go_wp2_with fail
      refine (hon.out _).mono ?_
      rintro e w1 ⟨rfl, rfl⟩
      go_wp2_with fail
      go_round
      case rel => exact ⟨i + 1, _, by go_num, by omega, rfl, hcl2, hn⟩
      case measure => simp [intOf]; omega
    · have hf2 : l.foldl con y = v := by rw [hf.out, List.drop_of_length_le (by rw [← hb.out.len]; omega)]; rfl
      have hnv := bits_not32 v hv
      replace hf2 := hide hf2
      clear hf
      go_wp2_with fail
      go_ret
      exact ⟨ret_int (by rw [hr.out, hf2.out]), rfl⟩
set_option maxRecDepth 100000 in
theorem of_any (A : Option Addr) (n c : Nat) (l : List UInt8) (w0 w : World) (h : In8 w0 A n c l) (hw : Ext w0 w) (hle : n ≤ 1000000000) :
    Calls Tryz.prog 83 #[.slice A n c] w fun e w' => e = .returned (.int .u32 (cnext 0 l : Nat)) ∧ w' = w := by
  have hn := hide (rnext_any A 0 n c l w0 w h hw (show 0 < 4294967296 by decide) hle)
  clear h
  go_enter Tryz.func83, Tryz.ntmps83
  go_wp2_with fail
  refine hn.out.mono ?_
  rintro e w1 ⟨rfl, rfl⟩
  go_wp2_with fail
  go_ret
  exact ⟨rfl, rfl⟩
end Go.Proofs.YtaoolpnnomhnoaaGreatDoor

/- loggia/crc: table, Next. -/
namespace Go.Proofs.YtaoolpnnomhnoaaGreatDoor
open Go.RowKit

/-- The table, as far as it is filled. -/
def tabA (i : Nat) : Array Value := ((List.range 256).map fun k => if k < i then Value.int .u32 (c8 k : Nat) else .int .u32 0).toArray
theorem tabA_get {i k : Nat} (hk : k < 256) : (tabA i)[k]? = some (if k < i then Value.int .u32 (c8 k : Nat) else .int .u32 0) := by
  unfold tabA
  simp [hk]
theorem tabA_put {i : Nat} (hi : i < 256) : (tabA i).setIfInBounds i (.int .u32 (c8 i : Nat)) = tabA (i + 1) := by
  apply Array.ext_getElem?
  intro k
  rw [Array.getElem?_setIfInBounds]
  by_cases hk : k < 256
  · rw [tabA_get hk, tabA_get hk]
    have hs : i < (tabA i).size := by unfold tabA; simp; omega
    by_cases hik : i = k
    · subst hik
      rw [if_pos rfl, if_pos hs, if_pos (by omega)]
    · rw [if_neg hik]
      by_cases h1 : k < i
      · rw [if_pos h1, if_pos (by omega)]
      · rw [if_neg h1, if_neg (by omega)]
  · have h1 : (tabA i)[k]? = none := by unfold tabA; simp; omega
    have h2 : (tabA (i + 1))[k]? = none := by unfold tabA; simp; omega
    rw [h1, h2, if_neg (by omega)]
set_option maxRecDepth 100000 in
theorem tabA_zero : Tryz.zeroCells185 = tabA 0 := by kernel_rfl
theorem and_one {v : Nat} (h : v < 4294967296) : bits .and .u32 (v : Int) 1 = ((v % 2 : Nat) : Int) := by
  rw [show (1 : Int) = ((1 : Nat) : Int) from rfl, u32_and_nat _ _ h (by omega), Nat.and_one_is_mod]
set_option maxRecDepth 100000 in
set_option maxHeartbeats 2000000 in
theorem table_any (w : World) : Calls Tryz.prog 130 #[] w fun e w' => e = .returned (.pointer (some ⟨w.heap.size, 0, none⟩)) ∧ Row w' w.heap.size 185 (tabA 256) ∧ Ext w w' := by
  have hz : Row (w.alloc (.cells Tryz.zeroCells185 185)) w.heap.size 185 (tabA 0) := by rw [tabA_zero]; exact Row.new w _ _
  have hE0 : Ext w (w.alloc (.cells Tryz.zeroCells185 185)) := (Ext.refl w).alloc _
  replace hz := hide hz
  replace hE0 := hide hE0
  go_enter Tryz.func130, Tryz.ntmps130
  go_wp2_with fail
  go_loopw [2, 3, 4, 5] (fun _ _ _ s5 wr => ∃ (i : Nat), s5 = .int .i64 i ∧ i ≤ 256 ∧ Hid (Row wr w.heap.size 185 (tabA i)) ∧ Hid (Ext w wr)) (fun _ _ _ s5 _ => 256 - (intOf s5).toNat)
  case atStart => exact ⟨0, rfl, by omega, hz, hE0⟩
  case round =>
    obtain ⟨i, rfl, hi, hr, hE⟩ := hrel
    by_cases hin : i < 256
    · obtain ⟨z, hz8⟩ : ∃ z, z = c8 i := ⟨_, rfl⟩
      have hz9 := hide hz8
      rw [citer8] at hz8
      replace hz8 := hide hz8
      obtain ⟨wo, rfl⟩ : ∃ wo : World, wo = wr := ⟨_, rfl⟩
      go_wp2_with fail
      go_loop [3, 4, 10] (fun s3 _ s10 => ∃ (j v : Nat), s10 = .int .i64 j ∧ j ≤ 8 ∧ s3 = .int .u32 v ∧ v < 4294967296 ∧ Hid (z = citer (8 - j) v)) (fun _ _ s10 => 8 - (intOf s10).toNat)
      case atStart => exact ⟨0, i, rfl, by omega, by go_num, by omega, hz8⟩
      case round =>
        obtain ⟨j, v, rfl, hj, rfl, hv, hzv⟩ := hrel
        by_cases hj8 : j < 8
        · have hn := citer_step hzv.out hj8
          have hcl := cstep_lt hv
          have hand := and_one hv
          obtain ⟨q, hq⟩ : ∃ q, q = v % 2 := ⟨_, rfl⟩
          obtain ⟨d, hd⟩ : ∃ d, d = v / 2 := ⟨_, rfl⟩
          have hdv : (v : Int) / 2 = (d : Int) := by omega
          have hd32 : d < 4294967296 := by omega
          have hxp := xor_poly hd32
          rw [← hq] at hand
          rcases (show q = 0 ∨ q = 1 by omega) with rfl | rfl
          · rw [cstep_even hq.symm, ← hd] at hn
            replace hn := hide hn
            clear hq hd hzv hcl
            go_wp2_with fail
            go_round
            case rel => exact ⟨j + 1, d, by go_num, by omega, rfl, hd32, hn⟩
            case measure => simp [intOf]; omega
          · rw [cstep_odd hq.symm, ← hd] at hn hcl
            obtain ⟨y, hy⟩ : ∃ y, y = d ^^^ 3988292384 := ⟨_, rfl⟩
            rw [← hy] at hn hcl hxp
            replace hn := hide hn
            clear hq hd hzv hy
            go_wp2_with fail
            go_round
            case rel => exact ⟨j + 1, y, by go_num, by omega, rfl, hcl, hn⟩
            case measure => simp [intOf]; omega
        · have hn := citer_end hzv.out (by omega)
          have hcell := hr.out.cell i (tabA_get hin)
          have hfr := hr.out.free i
          have hlt := hr.out.lt
          rw [if_neg (by omega)] at hcell
          have hp := hr.out.put i (.int .u32 (v : Nat))
          rw [← hn, hz9.out, tabA_put hin] at hp
          have hn' := hide (hz9.out.symm.trans hn)
          replace hp := hide hp
          have hEs := hide (hE.out.setCell (p := ⟨w.heap.size, i, none⟩) (Nat.le_refl _) (.int .u32 ((c8 i : Nat) : Int)))
          clear hzv hn
          go_wp2_with fail
          go_roundw
          case rel => exact ⟨i + 1, by go_num, by omega, by rw [← hn'.out]; exact hp, by rw [← hn'.out]; exact hEs⟩
          case measure => simp [intOf]; omega
    · obtain rfl : i = 256 := by omega
      go_wp2_with fail
      go_ret
      exact ⟨rfl, hr.out, hE.out⟩
end Go.Proofs.YtaoolpnnomhnoaaGreatDoor

/- loggia/crc: Next, Sum. -/
namespace Go.Proofs.YtaoolpnnomhnoaaGreatDoor
open Go.RowKit

theorem con_parts (v : Nat) (c : UInt8) : con v c = c8 ((v % 256) ^^^ c.toNat) ^^^ (v / 256) := by
  rw [con_table]
  congr 2
  have h := Nat.xor_mod_two_pow (a := v) (b := c.toNat) (n := 8)
  have hc := c.toNat_lt
  rw [show (2 : Nat) ^ 8 = 256 from rfl, Nat.mod_eq_of_lt (a := c.toNat) (by omega)] at h
  exact h
set_option maxRecDepth 100000 in
set_option maxHeartbeats 1000000 in
theorem next_any (A : Option Addr) (s n c : Nat) (l : List UInt8) (w0 w : World) (hb : In8 w0 A n c l) (hw : Ext w0 w) (hs : s < 4294967296) (hle : n ≤ 1000000000) :
    Calls Tryz.prog 106 #[.int .u32 s, .slice A n c] w fun e w' => e = .returned (.int .u32 (cnext s l : Nat)) ∧ Ext w w' := by
  have htab := hide (table_any w)
  have hnot := bits_not32 s hs
  have hcl : cnot s < 4294967296 := by unfold cnot; omega
  rw [show 4294967295 - s = cnot s from rfl] at hnot
  obtain ⟨y, hy⟩ : ∃ y, y = cnot s := ⟨_, rfl⟩
  rw [← hy] at hnot hcl
  have hr : cnext s l = 4294967295 - l.foldl con y := by unfold cnext; rw [← hy]; rfl
  replace hr := hide hr
  clear hy
  replace hb := hide hb
  go_enter Tryz.func106, Tryz.ntmps106
  go_wp2_with fail
  refine htab.out.mono ?_
  rintro e w1 ⟨rfl, hrow, hE1⟩
  replace hrow := hide hrow
  replace hE1 := hide hE1
  go_wp2_with fail
  go_loop [6, 8, 14] (fun s6 _ s14 => ∃ (i v : Nat), s14 = .int .i64 i ∧ i ≤ n ∧ s6 = .int .u32 v ∧ v < 4294967296 ∧ Hid (l.foldl con y = (l.drop i).foldl con v)) (fun _ _ s14 => n - (intOf s14).toNat)
  case atStart => exact ⟨0, y, rfl, by omega, rfl, hcl, rfl⟩
  case round =>
    obtain ⟨i, v, rfl, hi, rfl, hv, hf⟩ := hrel
    by_cases hin : i < n
    · have hil : i < l.length := by rw [← hb.out.len]; omega
      obtain ⟨g, o, rfl, hc⟩ := hb.out.bytes.at_ (by omega)
      have hcell := (hw.trans hE1.out).cell (hc i hil)
      have hn : l.foldl con y = (l.drop (i + 1)).foldl con (con v l[i]) := by rw [hf.out, List.drop_eq_getElem_cons hil]; rfl
      have hcl2 := con_lt l[i] hv
      have hcp := con_parts v l[i]
      obtain ⟨x, hx⟩ : ∃ x, x = l[i].toNat := ⟨_, rfl⟩
      have hx8 : x < 256 := by rw [hx]; exact l[i].toNat_lt
      rw [← hx] at hcell hcp
      obtain ⟨z, hz⟩ : ∃ z, z = con v l[i] := ⟨_, rfl⟩
      rw [← hz] at hn hcl2 hcp
      obtain ⟨m, hm⟩ : ∃ m, m = v % 256 := ⟨_, rfl⟩
      have hmv : (v : Int) % 256 = (m : Int) := by omega
      have hm8 : m < 256 := by omega
      have hx2 := u8_xor_nat m x hm8 hx8
      rw [← hm] at hcp
      have hk8 : m ^^^ x < 256 := Nat.xor_lt_two_pow (n := 8) hm8 hx8
      obtain ⟨k, hk⟩ : ∃ k, k = m ^^^ x := ⟨_, rfl⟩
      rw [← hk] at hcp hx2 hk8
      have htc := hrow.out.cell k (tabA_get hk8)
      rw [if_pos hk8] at htc
      obtain ⟨t, ht⟩ : ∃ t, t = c8 k := ⟨_, rfl⟩
      have ht32 : t < 4294967296 := by rw [ht]; exact c8_lt (by omega)
      rw [← ht] at htc hcp
      obtain ⟨d, hd⟩ : ∃ d, d = v / 256 := ⟨_, rfl⟩
      have hdv : (v : Int) / 256 = (d : Int) := by omega
      have hx3 := u32_xor_nat t d ht32 (by omega)
      rw [← hd] at hcp
      rw [← hcp] at hx3
      replace hn := hide hn
      clear hc hf hx hz hm hk ht hd hcp
      go_wp2_with fail
      go_round
      case rel => exact ⟨i + 1, z, by go_num, by omega, rfl, hcl2, hn⟩
      case measure => simp [intOf]; omega
    · have hf2 : l.foldl con y = v := by rw [hf.out, List.drop_of_length_le (by rw [← hb.out.len]; omega)]; rfl
      have hnv := bits_not32 v hv
      replace hf2 := hide hf2
      clear hf
      go_wp2_with fail
      go_ret
      exact ⟨ret_int (by rw [hr.out, hf2.out]), hE1.out⟩
def csum (s : Nat) (ls : List (List UInt8)) : Nat := ls.foldl cnext s
theorem csum_lt {s : Nat} (h : s < 4294967296) : ∀ (ls : List (List UInt8)), csum s ls < 4294967296 := by
  intro ls
  induction ls generalizing s with
  | nil => exact h
  | cons l ls ih => exact ih (cnext_lt s l)
set_option maxRecDepth 100000 in
set_option maxHeartbeats 1000000 in
theorem sum_any (B : Option Addr) (k c2 : Nat) (ps : List (Option Addr × Nat × List UInt8)) (w : World) (hk : k = ps.length) (hB : Cells w B (ps.map fun p => .slice p.1 p.2.2.length p.2.1)) (hin : ∀ p ∈ ps, In8 w p.1 p.2.2.length p.2.1 p.2.2) (hle : ∀ p ∈ ps, p.2.2.length ≤ 1000000000) (hk9 : k ≤ 1000000) :
    Calls Tryz.prog 91 #[.slice B k c2] w fun e w' => e = .returned (.int .u32 (csum 0 (ps.map fun p => p.2.2) : Nat)) ∧ Ext w w' := by
  replace hk := hide hk
  replace hin := hide hin
  replace hle := hide hle
  go_enter Tryz.func91, Tryz.ntmps91
  go_wp2_with fail
  go_loopw [3, 5, 8] (fun s3 _ s8 wr => ∃ (i v : Nat), s8 = .int .i64 i ∧ i ≤ k ∧ s3 = .int .u32 v ∧ v < 4294967296 ∧ Hid (csum 0 (ps.map fun p => p.2.2) = csum v ((ps.drop i).map fun p => p.2.2)) ∧ Hid (Ext w wr)) (fun _ _ s8 _ => k - (intOf s8).toNat)
  case atStart => exact ⟨0, 0, rfl, by omega, rfl, by omega, hide rfl, hide (Ext.refl w)⟩
  case round =>
    obtain ⟨i, v, rfl, hi, rfl, hv, hf, hE⟩ := hrel
    by_cases hik : i < k
    · have hil : i < ps.length := by rw [← hk.out]; omega
      obtain ⟨g, o, rfl, hc⟩ := hB.at_ (by rw [List.length_map]; omega)
      have hcell := hE.out.cell (hc i _ (by rw [List.getElem?_map, List.getElem?_eq_getElem hil]; rfl))
      have hn : csum 0 (ps.map fun p => p.2.2) = csum (cnext v ps[i].2.2) ((ps.drop (i + 1)).map fun p => p.2.2) := by rw [hf.out, List.drop_eq_getElem_cons hil]; rfl
      have hnx := next_any ps[i].1 v ps[i].2.2.length ps[i].2.1 ps[i].2.2 w wr (hin.out _ (List.getElem_mem hil)) hE.out hv (hle.out _ (List.getElem_mem hil))
      have hcl := cnext_lt v ps[i].2.2
      obtain ⟨p, hp⟩ : ∃ p, p = ps[i] := ⟨_, rfl⟩
      rw [← hp] at hcell hn hnx hcl
      obtain ⟨z, hz⟩ : ∃ z, z = cnext v p.2.2 := ⟨_, rfl⟩
      rw [← hz] at hn hnx hcl
      replace hn := hide hn
      replace hnx := hide hnx
      clear hp hc hf hz
      go_wp2_with fail
      refine hnx.out.mono ?_
      rintro e w1 ⟨rfl, hE1⟩
      go_wp2_with fail
      go_roundw
      case rel => exact ⟨i + 1, z, by go_num, by omega, rfl, hcl, hn, hide (hE.out.trans hE1)⟩
      case measure => simp [intOf]; omega
    · have hf2 : csum 0 (ps.map fun p => p.2.2) = v := by rw [hf.out, List.drop_of_length_le (by rw [← hk.out]; omega)]; rfl
      replace hf2 := hide hf2
      clear hf
      go_wp2_with fail
      go_ret
      exact ⟨by rw [hf2.out]; rfl, hE.out⟩
end Go.Proofs.YtaoolpnnomhnoaaGreatDoor

/- loggia/manifest: sum, Encode. -/
namespace Go.Proofs.YtaoolpnnomhnoaaGreatDoor
open Go.RowKit

theorem le4_B8 {s : Nat} (hs : s < 4294967296) : (le4 s).map B8 = [.int .u8 ((s : Int) % 256), .int .u8 ((s : Int) / 256 % 256), .int .u8 ((s : Int) / 65536 % 256), .int .u8 ((s : Int) / 16777216)] := by
  have h : ∀ (k : Nat) (z : Int), k < 256 → z = (k : Int) → B8 (UInt8.ofNat k) = .int .u8 z := fun k z hk hz => by unfold B8; rw [UInt8.toNat_ofNat', Nat.mod_eq_of_lt hk, hz]
  unfold le4
  simp only [List.map_cons, List.map_nil]
  rw [h _ ((s : Int) % 256) (by omega) (by omega), h _ ((s : Int) / 256 % 256) (by omega) (by omega), h _ ((s : Int) / 65536 % 256) (by omega) (by omega), h _ ((s : Int) / 16777216) (by omega) (by omega)]
set_option maxRecDepth 100000 in
set_option maxHeartbeats 1000000 in
theorem msum_any (A : Option Addr) (n c : Nat) (l : List UInt8) (w : World) (h : In8 w A n c l) (hle : n ≤ 1000000000) :
    Calls Tryz.prog 56 #[.slice A n c] w fun e w' => NewB w (le4 (cnext 0 l)) e w' := by
  have hl := h.len
  have hs := sum_any (some ⟨w.heap.size, 0, none⟩) 1 1 [(A, c, l)] (w.alloc (.cells #[.slice A n c] 57)) rfl (.inr ⟨w.heap.size, 0, rfl, fun i v hv => by
      rw [Nat.zero_add, cell_of_row _ _ _ _ _ _ (heap_alloc_new w _), hl]
      simpa using hv⟩) (fun p hp => by
      obtain rfl := List.mem_singleton.1 hp
      rw [hl] at h
      exact h.ext ((Ext.refl w).alloc _)) (fun p hp => by
      obtain rfl := List.mem_singleton.1 hp
      show l.length ≤ _
      omega) (by omega)
  have hcs : csum 0 ([(A, c, l)].map fun p => p.2.2) = cnext 0 l := rfl
  have hlt := cnext_lt 0 l
  rw [hcs] at hs
  obtain ⟨s, hsd⟩ : ∃ s, s = cnext 0 l := ⟨_, rfl⟩
  rw [← hsd] at hs hlt ⊢
  clear hsd hcs
  have hE0 : Ext w (w.alloc (.cells #[.slice A n c] 57)) := (Ext.refl w).alloc _
  replace hs := hide hs
  replace hl := hide hl
  replace hE0 := hide hE0
  clear h
  go_enter Tryz.func56, Tryz.ntmps56
  go_wp2_with fail
  refine hs.out.mono ?_
  rintro e w1 ⟨rfl, hE1⟩
  go_wp2_with fail
  go_ret
  have hnb := buf_new w1 [.int .u8 ((s : Int) % 256), .int .u8 ((s : Int) / 256 % 256), .int .u8 ((s : Int) / 65536 % 256), .int .u8 ((s : Int) / 16777216)] 5 (by simp)
  exact ⟨_, _, rfl, by rw [le4_B8 hlt]; exact hnb.lower (hE0.out.trans hE1).size, (hE0.out.trans hE1).alloc _⟩
def pnums (p : Pt) : List Int := [p.id, p.st, p.lo, p.hi, p.fi, p.la]
def encI (m : Mf) (i : Nat) : List UInt8 := [76, 71, 77, 49] ++ (vall [m.floor, m.done, m.log, m.next, m.now] ++ (vb m.ps.length ++ (m.ps.take i).flatMap fun p => vall (pnums p)))
theorem encI_all (m : Mf) : encI m m.ps.length = encB m := by unfold encI; rw [List.take_length]; rfl
theorem encI_zero (m : Mf) : encI m 0 = ([76, 71, 77, 49] ++ vall [m.floor, m.done, m.log, m.next, m.now]) ++ vb m.ps.length := by unfold encI; rw [List.take_zero, List.flatMap_nil, List.append_nil, List.append_assoc]
theorem encI_succ {m : Mf} {i : Nat} {p : Pt} (h : m.ps[i]? = some p) : encI m (i + 1) = encI m i ++ vall (pnums p) := by
  have hi := (List.getElem?_eq_some_iff.1 h).1
  have h2 := (List.getElem?_eq_some_iff.1 h).2
  unfold encI
  rw [List.take_succ_eq_append_getElem hi, List.flatMap_append, h2]
  simp
theorem vall_len (xs : List Int) (hx : ∀ x ∈ xs, -9223372036854775808 ≤ x ∧ x ≤ 9223372036854775807) : (vall xs).length ≤ 10 * xs.length := by
  have := vall_take xs hx xs.length
  rwa [List.take_length] at this
theorem pnums_ok {p : Pt} (h : p.Ok) : ∀ x ∈ pnums p, -9223372036854775808 ≤ x ∧ x ≤ 9223372036854775807 := by
  intro n hn
  unfold pnums at hn
  simp only [List.mem_cons, List.not_mem_nil, or_false] at hn
  rcases hn with rfl | rfl | rfl | rfl | rfl | rfl
  · exact h.id
  · exact h.st
  · exact h.lo
  · exact h.hi
  · exact h.fi
  · exact h.la
theorem heads_ok {m : Mf} (h : m.In) : ∀ x ∈ [m.floor, m.done, m.log, m.next, m.now], -9223372036854775808 ≤ x ∧ x ≤ 9223372036854775807 := by
  intro n hn
  simp only [List.mem_cons, List.not_mem_nil, or_false] at hn
  rcases hn with rfl | rfl | rfl | rfl | rfl
  · exact h.floor
  · exact h.done
  · exact h.log
  · exact h.next
  · exact h.now
theorem encI_len {m : Mf} (h : m.In) (h5 : m.ps.length ≤ 512) : ∀ i, i ≤ m.ps.length → (encI m i).length ≤ 64 + 60 * i
  | 0, _ => by
    have h1 := vall_len _ (heads_ok h)
    have h2 := vb_len10 (n := m.ps.length) (by omega)
    rw [encI_zero]
    simp only [List.length_append, List.length_cons, List.length_nil] at h1 ⊢
    omega
  | i + 1, hi => by
    have ih := encI_len h h5 i (by omega)
    have hg : m.ps[i]? = some m.ps[i] := List.getElem?_eq_getElem (by omega)
    have h1 := vall_len _ (pnums_ok (h.parts m.ps[i] (List.getElem_mem (by omega))))
    rw [encI_succ hg, List.length_append]
    have : (pnums m.ps[i]).length = 6 := rfl
    omega
/-- What Encode answers. -/
def EncP (w : World) (m : Mf) (e : Ending) (w' : World) : Prop := Ext w w' ∧ (checkP m = 0 → ∃ A c, e = .returned (.tuple #[.slice A (encM m).length c, .int .i64 0]) ∧ Buf w' w.heap.size 5 A (encM m).length c ((encM m).map B8)) ∧ (checkP m ≠ 0 → e = .returned (.tuple #[.slice none 0 0, .int .i64 (checkP m)]))
set_option maxRecDepth 100000 in
set_option maxHeartbeats 4000000 in
theorem encode_any (base : Nat) (m : Mf) (A : Option Addr) (c : Nat) (w : World) (h : m.Ok w base A c) : Calls Tryz.prog 21 #[m.val A c] w fun e w' => EncP w m e w' := by
  have hp := h.parts
  have hin := h.in_
  have hck : ∀ W, Ext w W → Calls Tryz.prog 34 #[m.val A c] W fun e w' => e = .returned (.int .i64 (checkP m)) ∧ Ext W w' := fun W hE => check_any base m A c W (h.ext hE)
  have hrow : Row (w.alloc (.cells #[.slice A m.ps.length c, .int .i64 m.floor, .int .i64 m.done, .int .i64 m.log, .int .i64 m.next, .int .i64 m.now] 24)) w.heap.size 24 #[.slice A m.ps.length c, .int .i64 m.floor, .int .i64 m.done, .int .i64 m.log, .int .i64 m.next, .int .i64 m.now] := Row.new w _ _
  have hE0 : Ext w (w.alloc (.cells #[.slice A m.ps.length c, .int .i64 m.floor, .int .i64 m.done, .int .i64 m.log, .int .i64 m.next, .int .i64 m.now] 24)) := (Ext.refl w).alloc _
  unfold Mf.val at hck ⊢
  replace hck := hide hck
  by_cases hc : checkP m = 0
  · obtain ⟨h5, hpp⟩ := checkP_zero hc
    have hcn : (checkP m : Int) = 0 := by omega
    have hc' := hide hc
    rw [hcn] at hck
    clear hc hcn h hpp
    have hfl := hide (heads_ok hin)
    have hle := hide (encI_len hin h5)
    replace hin := hide hin
    replace hrow := hide hrow
    replace hE0 := hide hE0
    replace hp := hide hp
    go_enter Tryz.func21, Tryz.ntmps21
    go_wp2_with fail
    refine (hck.out _ hE0.out).mono ?_
    rintro e w1 ⟨rfl, hE1⟩
    have hr1 := hide (hrow.out.ext hE1)
    have hE2 := hide (hE0.out.trans hE1)
    have x0 := hr1.out.cell 0 rfl
    have x1 := hr1.out.cell 1 rfl
    have x2 := hr1.out.cell 2 rfl
    have x3 := hr1.out.cell 3 rfl
    have x4 := hr1.out.cell 4 rfl
    have x5 := hr1.out.cell 5 rfl
    have hlt1 := hr1.out.lt
    have hsame := run_same w1 #[.int .u8 76, .int .u8 71, .int .u8 77, .int .u8 49] 4 4
    have hmk : Bs (w1.alloc (.cells #[.int .u8 76, .int .u8 71, .int .u8 77, .int .u8 49] 5 (4, 5))) (some ⟨w1.heap.size, 0, none⟩) [76, 71, 77, 49] := marked_bytes w1 [76, 71, 77, 49] 5 (4, 5)
    have hput := putAll_any (some ⟨w1.heap.size, 0, none⟩) (some ⟨w1.heap.size + 1, 0, none⟩) 4 4 5 5 [m.floor, m.done, m.log, m.next, m.now] [76, 71, 77, 49] ((w1.alloc (.cells #[.int .u8 76, .int .u8 71, .int .u8 77, .int .u8 49] 5 (4, 5))).alloc (.cells #[.int .i64 m.floor, .int .i64 m.done, .int .i64 m.log, .int .i64 m.next, .int .i64 m.now] 3)) rfl (hmk.ext ((Ext.refl _).alloc _)) nofun rfl (.inr ⟨w1.heap.size + 1, 0, rfl, fun i v hv => by
      have hn := heap_alloc_new (w1.alloc (.cells #[.int .u8 76, .int .u8 71, .int .u8 77, .int .u8 49] 5 (4, 5))) (.cells #[.int .i64 m.floor, .int .i64 m.done, .int .i64 m.log, .int .i64 m.next, .int .i64 m.now] 3)
      rw [show (w1.alloc (.cells #[.int .u8 76, .int .u8 71, .int .u8 77, .int .u8 49] 5 (4, 5))).heap.size = w1.heap.size + 1 by simp] at hn
      rw [Nat.zero_add, cell_of_row _ _ _ _ _ _ hn]
      simpa using hv⟩) (by omega) hfl.out
    have hE3 : Ext w1 ((w1.alloc (.cells #[.int .u8 76, .int .u8 71, .int .u8 77, .int .u8 49] 5 (4, 5))).alloc (.cells #[.int .i64 m.floor, .int .i64 m.done, .int .i64 m.log, .int .i64 m.next, .int .i64 m.now] 3)) := ((Ext.refl w1).alloc _).alloc _
    replace hput := hide hput
    replace hE3 := hide hE3
    clear hmk
    go_wp2_with fail
    refine hput.out.mono ?_
    rintro e w2 ⟨A2, c2, rfl, hb2, hE4⟩
    have hE5 := hE3.out.trans hE4
    have y0 := hE5.cell x0
    have hE6 := hide (hE2.out.trans hE5)
    have hlen2 := vall_len _ hfl.out
    obtain ⟨n2, hn2⟩ : ∃ n2, n2 = ([76, 71, 77, 49] ++ vall [m.floor, m.done, m.log, m.next, m.now]).length := ⟨_, rfl⟩
    rw [← hn2] at hb2 ⊢
    have hn264 : n2 ≤ 64 := by rw [hn2, List.length_append]; simp only [List.length_cons, List.length_nil] at hlen2 ⊢; omega
    have hput2 := put_any A2 n2 c2 m.ps.length _ w2 hn2 hb2.cells hb2.none_cap (by omega) (by omega)
    rw [← encI_zero] at hput2
    clear x0 x1 x2 x3 x4 x5 hsame hput hck hb2 hlen2 hE4 hE5 hlt1
    replace hput2 := hide hput2
    replace hn2 := hide hn2
    go_wp2_with fail
    refine hput2.out.mono ?_
    rintro e w3 ⟨A3, c3, rfl, hb3, hE7⟩
    have hE8 := hide (hE6.out.trans hE7)
    have z0 := hE7.cell y0
    have hb4 := hide (hb3.lower hE6.out.size)
    obtain ⟨n3, hn3⟩ : ∃ n3, n3 = (encI m 0).length := ⟨_, rfl⟩
    rw [← hn3] at hb4 ⊢
    replace hn3 := hide hn3
    clear hput2 hb3 y0 hE7
    go_wp2_with fail
    go_loopw [5, 36] (fun s5 s36 wr => ∃ (i : Nat) (A4 : Option Addr) (n4 c4 : Nat), s36 = .int .i64 i ∧ i ≤ m.ps.length ∧ s5 = .slice A4 n4 c4 ∧ Hid (n4 = (encI m i).length) ∧ Hid (Buf wr w.heap.size 5 A4 n4 c4 ((encI m i).map B8)) ∧ Hid (Ext w wr)) (fun _ s36 _ => m.ps.length - (intOf s36).toNat)
    case atStart => exact ⟨0, A3, n3, c3, rfl, by omega, rfl, hn3, hb4, hE8⟩
    case round =>
      obtain ⟨i, A4, n4, c4, rfl, hi, rfl, hn4, hb5, hE9⟩ := hrel
      have hl4 := hle.out i hi
      have hn4b : n4 ≤ 64 + 60 * i := by rw [hn4.out]; exact hl4
      clear hl4
      by_cases hik : i < m.ps.length
      · obtain ⟨g, o, p, rfl, hpi, hpo, k0, k1, k2, k3, k4, k5, k6⟩ := (hp.out.ext hE9.out).at_ hik
        have hsu := encI_succ hpi
        have hcx : Ext wr ((wr.alloc (.cells #[.int .i64 p.id, .int .i64 p.st, .int .i64 p.lo, .int .i64 p.hi, .int .i64 p.fi, .int .i64 p.la, .int .i64 p.n] 71)).alloc (.cells #[.int .i64 p.id, .int .i64 p.st, .int .i64 p.lo, .int .i64 p.hi, .int .i64 p.fi, .int .i64 p.la] 3)) := ((Ext.refl wr).alloc _).alloc _
        have hpa := putAll_any A4 (some ⟨wr.heap.size + 1, 0, none⟩) n4 c4 6 6 (pnums p) (encI m i) ((wr.alloc (.cells #[.int .i64 p.id, .int .i64 p.st, .int .i64 p.lo, .int .i64 p.hi, .int .i64 p.fi, .int .i64 p.la, .int .i64 p.n] 71)).alloc (.cells #[.int .i64 p.id, .int .i64 p.st, .int .i64 p.lo, .int .i64 p.hi, .int .i64 p.fi, .int .i64 p.la] 3)) hn4.out ((hb5.out.ext hcx).cells) hb5.out.none_cap rfl (.inr ⟨wr.heap.size + 1, 0, rfl, fun i v hv => by
          have hn := heap_alloc_new (wr.alloc (.cells #[.int .i64 p.id, .int .i64 p.st, .int .i64 p.lo, .int .i64 p.hi, .int .i64 p.fi, .int .i64 p.la, .int .i64 p.n] 71)) (.cells #[.int .i64 p.id, .int .i64 p.st, .int .i64 p.lo, .int .i64 p.hi, .int .i64 p.fi, .int .i64 p.la] 3)
          rw [show (wr.alloc (.cells #[.int .i64 p.id, .int .i64 p.st, .int .i64 p.lo, .int .i64 p.hi, .int .i64 p.fi, .int .i64 p.la, .int .i64 p.n] 71)).heap.size = wr.heap.size + 1 by simp] at hn
          rw [Nat.zero_add, cell_of_row _ _ _ _ _ _ hn]
          simpa [pnums] using hv⟩) (by omega) (pnums_ok hpo)
        rw [← hsu] at hpa
        have hwrs := hE9.out.size
        have hgl : g < wr.heap.size := World.block_lt_of_cell? wr _ k0
        replace hpa := hide hpa
        replace hcx := hide hcx
        clear hsu hpi hpo
        go_wp2_with fail
        refine hpa.out.mono ?_
        rintro e w5 ⟨A5, c5, rfl, hb6, hE10⟩
        have hE11 := hide (hE9.out.trans (hcx.out.trans hE10))
        have hb7 := hide (hb6.lower (hE9.out.trans hcx.out).size)
        obtain ⟨n5, hn5⟩ : ∃ n5, n5 = (encI m (i + 1)).length := ⟨_, rfl⟩
        rw [← hn5] at hb7 ⊢
        replace hn5 := hide hn5
        clear hb6 hE10
        go_wp2_with fail
        go_roundw
        case rel => exact ⟨i + 1, A5, n5, c5, by go_num, by omega, rfl, hn5, hb7, hE11⟩
        case measure => simp [intOf]; omega
      · obtain rfl : i = m.ps.length := by omega
        rw [encI_all] at hn4 hb5
        have hsm := msum_any A4 n4 c4 (encB m) wr hb5.out.in8 (by omega)
        have hwrs := hE9.out.size
        have hl4 : (le4 (cnext 0 (encB m))).length = 4 := rfl
        replace hsm := hide hsm
        replace hl4 := hide hl4
        go_wp2_with fail
        refine hsm.out.mono ?_
        rintro e w5 ⟨A5, c5, rfl, hb6, hE10⟩
        have hb7 := hb5.out.ext hE10
        have hE11 := hE9.out.trans hE10
        have hws5 := hE11.size
        go_wp2_with (at_builtin; refine wpList_buf elemB hb7 hb6.cells (.tmp 56) (.tmp 58) rfl rfl rfl rfl rfl (by rw [List.length_map]) (bytes_one _) (by rw [hl4.out]; omega) hws5 (fun A8 c8 w8 hb8 _ hE12 _ => ?_))
        go_ret2
        have hlm : n4 + (le4 (cnext 0 (encB m))).length = (encM m).length := by unfold encM; rw [List.length_append, ← hn4.out]
        have hmm : (encM m).map B8 = (encB m).map B8 ++ (le4 (cnext 0 (encB m))).map B8 := by unfold encM; rw [List.map_append]
        refine ⟨hE12 w hE11 (Nat.le_refl _), fun _ => ⟨A8, c8, by rw [← hlm]; rfl, by rw [hmm, ← hlm]; exact hb8⟩, fun h => absurd hc'.out h⟩
  · have hcn : ((checkP m : Int) != 0) = true := by simp; omega
    obtain ⟨k, hk⟩ : ∃ k, k = checkP m := ⟨_, rfl⟩
    rw [← hk] at hck hcn
    replace hk := hide hk
    replace hrow := hide hrow
    replace hE0 := hide hE0
    clear hp h hin
    go_enter Tryz.func21, Tryz.ntmps21
    go_wp2_with fail
    refine (hck.out _ hE0.out).mono ?_
    rintro e w1 ⟨rfl, hE1⟩
    go_wp2_with fail
    go_ret2
    exact ⟨hE0.out.trans hE1, fun h => absurd h hc, fun _ => by rw [← hk.out]; rfl⟩
end Go.Proofs.YtaoolpnnomhnoaaGreatDoor

/- loggiaref02: Get. -/
namespace Go.Proofs.YtaoolpnnomhnoaaGreatDoor
open Go.RowKit

theorem add_bits {i acc y : Nat} (hi : i ≤ 9) (ha : acc < 128 ^ i) (hy : y < 128) (h9 : i = 9 → y ≤ 1) : IntKind.u64.wrap ((acc : Int) + IntKind.u64.wrap ((y : Int) * 2 ^ (7 * i))) = ((acc + 128 ^ i * y : Nat) : Int) := by
  have e : ∀ y : Int, IntKind.u64.wrap y = y % 18446744073709551616 := fun y => by simp [IntKind.wrap, IntKind.bits, IntKind.signed]
  have hlt : acc + 128 ^ i * y < 18446744073709551616 := by
    rcases Nat.lt_or_ge i 9 with h | h
    · have h1 := acc_lt ha hy
      have h2 : 128 ^ (i + 1) ≤ 128 ^ 9 := Nat.pow_le_pow_right (by omega) (by omega)
      omega
    · obtain rfl : i = 9 := by omega
      have := h9 rfl
      omega
  have hp : (128 : Nat) ^ i = 2 ^ (7 * i) := by rw [show (128 : Nat) = 2 ^ 7 from rfl, ← Nat.pow_mul]
  rw [hp] at hlt ⊢
  have : (y : Int) * 2 ^ (7 * i) = ((2 ^ (7 * i) * y : Nat) : Int) := by simp [Int.mul_comm]
  rw [e, e, this]
  omega
set_option maxRecDepth 100000 in
set_option maxHeartbeats 2000000 in
theorem rget_any (A : Option Addr) (n c : Nat) (l : List UInt8) (w0 w : World) (h : In8 w0 A n c l) (hw : Ext w0 w) (hle : n ≤ 1000000000) :
    Calls Tryz.prog 79 #[.slice A n c] w fun e w' => Got w0 w (getV 0 l) e w' := by
  have hcap := h.cap
  replace h := hide h
  go_enter Tryz.func79, Tryz.ntmps79
  go_wp2_with fail
  go_loopw [5, 6] (fun s5 s6 wr => ∃ (i acc : Nat), s6 = .int .i64 i ∧ s5 = .int .u64 acc ∧ i ≤ n ∧ i ≤ 10 ∧ acc < 128 ^ i ∧ Hid (getV 0 l = comb i acc (getV i (l.drop i))) ∧ Hid (Ext w wr)) (fun _ s6 _ => n - (intOf s6).toNat)
  case atStart => exact ⟨0, 0, rfl, rfl, by omega, by omega, by simp, hide (by rw [comb_zero]; rfl), hide (Ext.refl w)⟩
  case round =>
    obtain ⟨i, acc, rfl, rfl, hi, hi10, hacc, hg, hE⟩ := hrel
    by_cases hik : i < n ∧ i < 10
    · obtain ⟨hik, hi9⟩ := hik
      have hil : i < l.length := by rw [← h.out.len]; omega
      obtain ⟨g, o, rfl, hc⟩ := h.out.bytes.at_ (by omega)
      have hcell := (hw.trans hE.out).cell (hc i hil)
      have hgg := getV_get (List.getElem?_eq_getElem hil) (by omega) acc
      rw [← hg.out] at hgg
      obtain ⟨x, hx⟩ : ∃ x, x = l[i].toNat := ⟨_, rfl⟩
      have hx256 : x < 256 := by rw [hx]; exact l[i].toNat_lt
      rw [← hx] at hcell hgg
      replace hx := hide hx
      replace hgg := hide hgg
      obtain ⟨y, hy⟩ : ∃ y, y = x % 128 := ⟨_, rfl⟩
      have hmod : (x : Int) % 128 = (y : Int) := by omega
      have hyy : y < 128 := by omega
      replace hy := hide hy
      obtain ⟨A', c', hrun, hin⟩ := h.out.from_ (fr := i + 1) (by omega) (z := (i : Int) + 1) (by omega)
      have hin' := hide hin
      clear hc hg hin
      have hor := fun h9 : i = 9 → y ≤ 1 => add_bits (i := i) (acc := acc) (y := y) (by omega) hacc hyy h9
      replace hor := hide hor
      have hnx := fun (h1 : ¬((i = 9 ∧ 1 < x) ∨ (0 < i ∧ x = 0))) (h2 : 128 ≤ x) => hgg.out.trans ((if_neg h1).trans (if_neg (by omega)))
      have hok := fun (h1 : ¬((i = 9 ∧ 1 < x) ∨ (0 < i ∧ x = 0))) (h2 : x < 128) => hgg.out.trans ((if_neg h1).trans (if_pos h2))
      have hbad := fun (h1 : (i = 9 ∧ 1 < x) ∨ (0 < i ∧ x = 0)) => hgg.out.trans (if_pos h1)
      have hyx : x < 128 → y = x := fun h => by have := hy.out; omega
      have hyx2 : 128 ≤ x → y = x - 128 := fun h => by have := hy.out; omega
      have hz : ((x : Int) == 0) = true → x = 0 := fun h => by simp at h; omega
      have hz2 : ((x : Int) == 0) = false → x ≠ 0 := fun h => by simp at h; omega
      replace hnx := hide hnx
      replace hok := hide hok
      replace hbad := hide hbad
      replace hyx := hide hyx
      replace hyx2 := hide hyx2
      replace hz := hide hz
      replace hz2 := hide hz2
      by_cases h9 : i = 9
      · subst h9
        have hor9 : y ≤ 1 → IntKind.u64.wrap ((acc : Int) + IntKind.u64.wrap ((y : Int) * 9223372036854775808)) = ((acc + 128 ^ 9 * y : Nat) : Int) := fun hy1 => by
          have e : (2 : Int) ^ (7 * 9) = 9223372036854775808 := by simp
          have := hor.out fun _ => hy1
          rw [e] at this
          exact this
        replace hor9 := hide hor9
        obtain ⟨A9, c9, hrun9, hin9⟩ := h.out.from_ (fr := 10) (by omega) (z := 10) rfl
        replace hin9 := hide hin9
        clear hrun hin'
        go_wp2_with fail
        · go_ret3
          have h0 : (1 < (x : Int) ∨ ((x : Int) == 0) = true) := by assumption
          exact got_err (hbad.out (by rcases h0 with h0 | h0; exact .inl ⟨by trivial, by omega⟩; exact .inr ⟨by omega, hz.out h0⟩)) hE.out
        · refine wp_region_text follows (by kernel_rfl) (by kernel_rfl) (fun K hK => ?_)
          go_wp2_with fail
          refine ⟨by kernel_rfl, ?_⟩
          go_wp2_with fail
          go_ret3
          have hx1 : x ≤ 1 := by omega
          have h0 : ((x : Int) ≤ 1 ∧ ((x : Int) == 0) = false) := by assumption
          have h0' := hz2.out h0.2
          exact got_ok (hok.out (by omega) (by omega)) hE.out.drew hin9.out (by have h5 := hyx.out (by omega); have h6 : (128 : Nat) ^ 9 = 9223372036854775808 := rfl; omega)
        · go_ret3
          exact got_err (hbad.out (.inl ⟨by trivial, by omega⟩)) hE.out
      · go_wp2_with fail
        · go_ret3
          exact got_err (hbad.out (.inr ⟨by omega, hz.out (by assumption)⟩)) hE.out
        · refine wp_region_text follows (by kernel_rfl) (by kernel_rfl) (fun K hK => ?_)
          go_wp2_with fail
          refine ⟨by kernel_rfl, ?_⟩
          go_wp2_with fail
          go_ret3
          exact got_ok (hok.out (by have := hz2.out (by assumption); omega) (by omega)) hE.out.drew hin'.out (by rw [hor.out (by omega), hyx.out (by omega)])
        · go_roundw
          case rel => exact ⟨i + 1, acc + 128 ^ i * y, by go_num, by rw [hor.out (by omega)], by omega, by omega, acc_lt hacc hyy, hide (by rw [hnx.out (by omega) (by omega), hyx2.out (by omega)]), hE⟩
          case measure => simp [intOf]; omega
        · refine wp_region_text follows (by kernel_rfl) (by kernel_rfl) (fun K hK => ?_)
          go_wp2_with fail
          refine ⟨by kernel_rfl, ?_⟩
          go_wp2_with fail
          go_ret3
          exact got_ok (hok.out (by omega) (by omega)) hE.out.drew hin'.out (by rw [hor.out (by omega), hyx.out (by omega)])
        · go_roundw
          case rel => exact ⟨i + 1, acc + 128 ^ i * y, by go_num, by rw [hor.out (by omega)], by omega, by omega, acc_lt hacc hyy, hide (by rw [hnx.out (by omega) (by omega), hyx2.out (by omega)]), hE⟩
          case measure => simp [intOf]; omega
    · have hge := getV_end (l := l) (i := i) (by rw [← h.out.len]; omega) acc
      rw [← hg.out] at hge
      replace hge := hide hge
      clear hg
      go_wp2_with fail
      all_goals go_ret3
      all_goals exact got_err hge.out hE.out
end Go.Proofs.YtaoolpnnomhnoaaGreatDoor

