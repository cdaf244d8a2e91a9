/- Texts of one proof, joined. -/
import Derived.Test.YtkdcnhnaiknaaaaGreatFD02
import Derived.Laws.BitsAllLaws
import Derived.Deep.CutRange
import Derived.Deep.DeepCutAuto
import Derived.Test.YtkdcnhnaiknaaaaGreatRows
import Derived.WalkKit
import Derived.ProofKit
import Derived.OpenShut
import Derived.ShutString
import Derived.ChangeOld
import Derived.Below
import Derived.Deep.Slices
import Derived.Deep.Fields
import Derived.ChangeSame
import Derived.SliceStrings
set_option linter.unusedSimpArgs false
set_option linter.unusedVariables false
namespace Go.Proofs.YtkdcnhnaiknaaaaGreat
section
open Go.RowKit
structure Frm where
  k : Nat
  msk : Nat
  hd : Nat
  lo : Nat
  hi : Nat
  d : Nat
  q : Nat
def frm (i : Nat) : Frm := if i = 0 then ⟨1, 224, 192, 128, 2047, 32, 6⟩ else if i = 1 then ⟨2, 240, 224, 2048, 65535, 16, 14⟩ else ⟨3, 248, 240, 65536, 1114111, 8, 30⟩
def Frm.cells (f : Frm) : Array Value := #[.int .i64 ((f.k : Int) + 1), .int .u8 (f.msk : Int), .int .u8 (f.hd : Int), .int .i64 (f.lo : Int), .int .i64 (f.hi : Int), .int .i64 (-1)]
theorem three {i : Nat} (h : i < 3) : i = 0 ∨ i = 1 ∨ i = 2 := by omega
set_option maxRecDepth 100000 in
theorem run_form {i : Nat} (hi : i < 3) (W : World) : (Instr.index 277 (.agg formC) (.int .i64 (i : Int))).run Tryz.prog W = .ok (.agg (frm i).cells) W := by
  rcases three hi with rfl | rfl | rfl
  · show _ = _
    kernel_rfl
  · show _ = _
    kernel_rfl
  · show _ = _
    kernel_rfl
set_option maxRecDepth 100000 in
theorem frm_and : ∀ b : Fin 256, ∀ i : Fin 3, bits .and .u8 ((b.val : Nat) : Int) ((frm i.val).msk : Int) = ((b.val / (frm i.val).d * (frm i.val).d : Nat) : Int) := by decide +kernel
set_option maxRecDepth 100000 in
theorem frm_not : ∀ b : Fin 256, ∀ i : Fin 3, bits .andNot .u8 ((b.val : Nat) : Int) ((frm i.val).msk : Int) = ((b.val % (frm i.val).d : Nat) : Int) := by decide +kernel
theorem frm_hd : ∀ i : Fin 3, (frm i.val).hd = (frm i.val).q * (frm i.val).d ∧ 0 < (frm i.val).d ∧ (frm i.val).d ≤ 32 ∧ (frm i.val).k ≤ 3 ∧ (frm i.val).hi ≤ 1114111 := by decide +kernel
theorem frm_head {i : Nat} (hi : i < 3) (b : UInt8) : (bits .and .u8 (b.toNat : Int) ((frm i).msk : Int) = ((frm i).hd : Int)) ↔ b.toNat / (frm i).d = (frm i).q := by
  have h1 := frm_and ⟨b.toNat, b.toNat_lt⟩ ⟨i, hi⟩
  have h2 := frm_hd ⟨i, hi⟩
  simp only at h1 h2
  rw [h1, h2.1]
  constructor
  · intro h
    exact Nat.eq_of_mul_eq_mul_right h2.2.1 (Int.ofNat.inj h)
  · intro h
    rw [h]
theorem and63 (b : UInt8) : bits .and .u8 (b.toNat : Int) 63 = ((b.toNat % 64 : Nat) : Int) := by
  have h : ∀ k : Fin 256, bits .and .u8 ((k.val : Nat) : Int) 63 = ((k.val % 64 : Nat) : Int) := by decide +kernel
  exact h ⟨b.toNat, b.toNat_lt⟩
theorem and192 (b : UInt8) : (bits .and .u8 (b.toNat : Int) 192 = 128) ↔ contB b = true := by
  have h : ∀ k : Fin 256, (bits .and .u8 ((k.val : Nat) : Int) 192 = 128) ↔ k.val / 64 == 2 := by decide +kernel
  exact h ⟨b.toNat, b.toNat_lt⟩
theorem i64_or_nat (a b : Nat) (ha : a < 4611686018427387904) (hb : b < 4611686018427387904) : bits .or .i64 (a : Int) (b : Int) = ((a ||| b : Nat) : Int) := by
  have hx : a ||| b < 2 ^ 62 := Nat.or_lt_two_pow (by omega) (by omega)
  have h1 : (BitVec.ofInt 64 (a : Int)).toNat = a := by
    rw [BitVec.ofInt_natCast, BitVec.toNat_ofNat]; exact Nat.mod_eq_of_lt (by omega)
  have h2 : (BitVec.ofInt 64 (b : Int)).toNat = b := by
    rw [BitVec.ofInt_natCast, BitVec.toNat_ofNat]; exact Nat.mod_eq_of_lt (by omega)
  show IntKind.i64.wrap ((BitVec.ofInt 64 (a : Int) ||| BitVec.ofInt 64 (b : Int)).toNat : Int) = _
  rw [BitVec.toNat_or, h1, h2, IntKind.wrap_i64]
  omega
theorem or6 (x y : Nat) (hx : x < 1073741824) (hy : y < 64) : bits .or .i64 ((x : Int) * 64) (y : Int) = ((x * 64 + y : Nat) : Int) := by
  have := Nat.shiftLeft_add_eq_or_of_lt (i := 6) (b := y) hy x
  rw [Nat.shiftLeft_eq] at this
  rw [show (x : Int) * 64 = ((x * 64 : Nat) : Int) by omega, i64_or_nat _ _ (by omega) (by omega), ← this]
def okF (i : Nat) (b : UInt8) (t : List UInt8) : Bool := b.toNat / (frm i).d == (frm i).q && okR (frm i).lo (frm i).hi (b.toNat % (frm i).d) (frm i).k t
theorem decR_form {i : Nat} {b : UInt8} {t : List UInt8} (hi : i < 3) (hb : ¬ b.toNat < 128) (hn : ∀ j, j < i → okF j b t = false) (h : okF i b t = true) : decR (b :: t) = (foldR (b.toNat % (frm i).d) (t.take (frm i).k), (frm i).k + 1) := by
  rw [decR, if_neg hb]
  rcases three hi with rfl | rfl | rfl
  · exact if_pos h
  · have h0 := hn 0 (by omega)
    rw [if_neg (by rw [show (b.toNat / 32 == 6 && okR 128 2047 (b.toNat % 32) 1 t) = false from h0]; decide)]
    exact if_pos h
  · have h0 := hn 0 (by omega)
    have h1 := hn 1 (by omega)
    rw [if_neg (by rw [show (b.toNat / 32 == 6 && okR 128 2047 (b.toNat % 32) 1 t) = false from h0]; decide), if_neg (by rw [show (b.toNat / 16 == 14 && okR 2048 65535 (b.toNat % 16) 2 t) = false from h1]; decide)]
    exact if_pos h
theorem decR_none {b : UInt8} {t : List UInt8} (hb : ¬ b.toNat < 128) (hn : ∀ j, j < 3 → okF j b t = false) : decR (b :: t) = (65533, 1) := by
  have h0 := hn 0 (by omega)
  have h1 := hn 1 (by omega)
  have h2 := hn 2 (by omega)
  rw [decR, if_neg hb, if_neg (by rw [show (b.toNat / 32 == 6 && okR 128 2047 (b.toNat % 32) 1 t) = false from h0]; decide), if_neg (by rw [show (b.toNat / 16 == 14 && okR 2048 65535 (b.toNat % 16) 2 t) = false from h1]; decide), if_neg (by rw [show (b.toNat / 8 == 30 && okR 65536 1114111 (b.toNat % 8) 3 t) = false from h2]; decide)]
theorem foldR_lt (n : Nat) (l : List UInt8) : foldR n l < (n + 1) * 64 ^ l.length := by
  induction l generalizing n with
  | nil => simp [foldR]
  | cons b l ih =>
    have h := ih (n * 64 + b.toNat % 64)
    rw [List.length_cons, Nat.pow_succ]
    refine Nat.lt_of_lt_of_le (show foldR n (b :: l) < _ from h) ?_
    rw [show (n + 1) * (64 ^ l.length * 64) = (n * 64 + 64) * 64 ^ l.length by rw [Nat.mul_comm (64 ^ l.length) 64, ← Nat.mul_assoc, Nat.add_mul n 1 64]]
    exact Nat.mul_le_mul_right _ (by omega)
theorem foldR_snoc (n : Nat) (l : List UInt8) (b : UInt8) : foldR n (l ++ [b]) = foldR n l * 64 + b.toNat % 64 := by
  unfold foldR
  rw [List.foldl_append]
  rfl
theorem foldR_small {n : Nat} {l : List UInt8} (hn : n < 32) (hl : l.length ≤ 3) : foldR n l < 8388608 := by
  have h := foldR_lt n l
  have h2 : (n + 1) * 64 ^ l.length ≤ 32 * 64 ^ 3 := Nat.mul_le_mul (by omega) (Nat.pow_le_pow_right (by omega) hl)
  omega
theorem bytes_cut (l : List UInt8) (a b : Nat) : (⟨l.toArray⟩ : ByteArray).extract a b = ⟨((l.drop a).take (b - a)).toArray⟩ := by
  have : ((⟨l.toArray⟩ : ByteArray).extract a b).data = ((l.drop a).take (b - a)).toArray := by
    rw [ByteArray.data_extract, List.extract_toArray, List.extract_eq_take_drop]
  generalize (⟨l.toArray⟩ : ByteArray).extract a b = x at this
  cases x
  subst this
  rfl
theorem bs_cell {w : World} {g : Nat} {l : List UInt8} (h : Bs w (some ⟨g, 0, none⟩) l) {j : Nat} {b : UInt8} (hb : l[j]? = some b) : w.cell? ⟨g, j, none⟩ = some (.int .u8 (b.toNat : Int)) := by
  obtain ⟨g', o, hA, hc⟩ := Cells.at_ h (by rw [List.length_map]; exact Nat.lt_of_le_of_lt (Nat.zero_le _) (List.getElem?_eq_some_iff.1 hb).1)
  cases hA
  have := hc j (B8 b) (by rw [List.getElem?_map, hb]; rfl)
  rwa [Nat.zero_add] at this
end
section
open Go.RowKit
set_option maxRecDepth 100000 in
set_option maxHeartbeats 2000000 in
theorem decode1_any (l : List UInt8) (at_ : Nat) (b : UInt8) (w : World) (hb : l[at_]? = some b) (hl : l.length ≤ 1073741824) (hb8 : ¬ b.toNat < 128) :
    Calls Tryz.prog 191 #[.string ⟨l.toArray⟩, .int .i64 (at_ : Int)] w fun e w' => e = .returned (.tuple #[.int .i64 (decR (l.drop at_)).1, .int .i64 (decR (l.drop at_)).2]) ∧ Ext w w' := by
  have hat := (List.getElem?_eq_some_iff.1 hb).1
  have hix := fun W => run_strindex hb (z := (at_ : Int)) rfl W
  have hforms := hide (fun W => forms_any W)
  obtain ⟨F, hF⟩ : ∃ F, F = formC := ⟨_, rfl⟩
  rw [← hF] at hforms
  have hfr := fun i (h : i < 3) W => run_form h W
  rw [← hF] at hfr
  unfold Frm.cells at hfr
  replace hfr := hide hfr
  replace hF := hide hF
  obtain ⟨t, ht⟩ : ∃ t, t = l.drop (at_ + 1) := ⟨_, rfl⟩
  have hbt : l.drop at_ = b :: t := by
    rw [ht, List.drop_eq_getElem_cons hat]
    congr 1
    exact (List.getElem?_eq_some_iff.1 hb).2
  have htl : t.length = l.length - (at_ + 1) := by rw [ht, List.length_drop]
  obtain ⟨R, hR⟩ : ∃ R, R = decR (b :: t) := ⟨_, rfl⟩
  rw [hbt, ← hR]
  replace hbt := hide hbt
  replace ht := hide ht
  replace hR := hide hR
  replace htl := hide htl
  have hb8i : ¬ (b.toNat : Int) < 128 := by omega
  replace hb := hide hb
  go_enter Tryz.func191, Tryz.ntmps191
  go_wp2_with fail
  refine (hforms.out _).mono ?_
  rintro e w1 ⟨rfl, hE1⟩
  go_wp2_with fail
  go_loopw [29] (fun s29 wr => ∃ i : Nat, s29 = .int .i64 (i : Int) ∧ i ≤ 3 ∧ Ext w wr ∧ (∀ j, j < i → okF j b t = false)) (fun s29 _ => 3 - (intOf s29).toNat)
  case atStart => exact ⟨0, rfl, by omega, hE1, fun j hj => absurd hj (by omega)⟩
  case round =>
    obtain ⟨i, rfl, hi3, hE, hno⟩ := hrel
    replace hno := hide hno
    by_cases hi : i < 3
    · obtain ⟨f, hf⟩ : ∃ f, f = frm i := ⟨_, rfl⟩
      have hfi := hfr.out i hi
      have hhd := frm_head hi b
      have hnt := frm_not ⟨b.toNat, b.toNat_lt⟩ ⟨i, hi⟩
      have hpr := frm_hd ⟨i, hi⟩
      simp only at hnt hpr
      rw [← hf] at hfi hhd hnt hpr
      obtain ⟨k, msk, hd, lo, hi', d, q'⟩ := f
      simp only at hfi hhd hnt hpr
      obtain ⟨n0, hn0⟩ : ∃ n0, n0 = b.toNat % d := ⟨_, rfl⟩
      rw [← hn0] at hnt
      have hn32 : n0 < 32 := by
        have := Nat.mod_lt b.toNat hpr.2.1
        omega
      replace hn0 := hide hn0
      replace hf := hide hf
      by_cases hA : bits .and .u8 (b.toNat : Int) (msk : Int) = (hd : Int)
      · replace hhd := hide hhd
        by_cases hk : k ≤ t.length
        · have hki : ((k : Int) + 1) ≤ (l.length : Int) - (at_ : Int) := by have := htl.out; omega
          obtain ⟨T, hT⟩ : ∃ T, T = t.take k := ⟨_, rfl⟩
          have hTl : T.length = k := by rw [hT, List.length_take]; omega
          obtain ⟨W0, hW0⟩ : ∃ W0, W0 = wr.alloc (.cells #[.int .i64 ((k : Int) + 1), .int .u8 (msk : Int), .int .u8 (hd : Int), .int .i64 (lo : Int), .int .i64 (hi' : Int), .int .i64 (-1)] 276) := ⟨_, rfl⟩
          obtain ⟨c, W1, hcv, hB, hE01, hsz⟩ := run_bytes T W0
          have hTe : (⟨l.toArray⟩ : ByteArray).extract (at_ + 1) (at_ + (k + 1)) = ⟨T.toArray⟩ := by
            rw [bytes_cut, ← ht.out, hT, show at_ + (k + 1) - (at_ + 1) = k by omega]
          rw [hTl] at hcv
          replace hT := hide hT
          have hr0 := Row.new wr 276 #[.int .i64 ((k : Int) + 1), .int .u8 (msk : Int), .int .u8 (hd : Int), .int .i64 (lo : Int), .int .i64 (hi' : Int), .int .i64 (-1)]
          rw [← hW0] at hr0
          have hr1 := Row.ext hr0 hE01
          have hEW : Ext w W1 := ((hE.alloc _).trans (by rw [← hW0]; exact hE01))
          have hgs : W0.heap.size = wr.heap.size + 1 := by rw [hW0]; simp
          have hcl := hr1.get
          obtain ⟨g1, hg1⟩ : ∃ g1, g1 = W0.heap.size := ⟨_, rfl⟩
          rw [← hg1] at hcv hB
          replace hg1 := hide hg1
          rw [hW0] at hcv
          obtain ⟨g, hg⟩ : ∃ g, g = wr.heap.size := ⟨_, rfl⟩
          replace hgs := hide hgs
          have hclg := hcl
          rw [← hg] at hclg
          have hk3 : k ≤ 3 := hpr.2.2.2.1
          replace hpr := hide hpr
          replace hg := hide hg
          replace hW0 := hide hW0
          replace hB := hide hB
          replace hsz := hide hsz
          have hix2 := fun (j : Nat) (b' : UInt8) (h : T[j]? = some b') => bs_cell hB.out h
          replace hcl := hide hcl
          go_upto_region 12 with (fail)
          go_loopw [63, 9, 10] (fun s63 s9 s10 wr' => ∃ (j X : Nat) (q : Bool), s63 = .int .i64 (j : Int) ∧ s9 = .int .i64 (X : Int) ∧ s10 = .bool q ∧ j ≤ k ∧ X = foldR n0 (T.take j) ∧ q = (T.take j).all contB ∧ wr' = W1) (fun s63 _ _ _ => k - (intOf s63).toNat)
          case atStart => exact ⟨0, n0, true, rfl, rfl, rfl, by omega, rfl, rfl, rfl⟩
          case round =>
            obtain ⟨j, X, q, rfl, rfl, rfl, hjk, hX, hq, rfl⟩ := hrel
            by_cases hj : j < k
            · obtain ⟨b', hb'⟩ : ∃ b', T[j]? = some b' := ⟨_, List.getElem?_eq_getElem (by omega)⟩
              have hld := hix2 j b' hb'
              have h63 := and63 b'
              have hX8 : X < 8388608 := by rw [hX]; exact foldR_small hn32 (by rw [List.length_take]; omega)
              have hor := or6 X (b'.toNat % 64) (by omega) (by omega)
              obtain ⟨y, hy⟩ : ∃ y, y = b'.toNat % 64 := ⟨_, rfl⟩
              rw [← hy] at h63 hor
              obtain ⟨X2, hX2⟩ : ∃ X2, X2 = X * 64 + y := ⟨_, rfl⟩
              rw [← hX2] at hor
              have hts : T.take (j + 1) = T.take j ++ [b'] := by rw [List.take_add_one, hb']; rfl
              have hXn : X2 = foldR n0 (T.take (j + 1)) := by rw [hts, foldR_snoc, ← hX, hX2, hy]
              have hqn : (q && contB b') = (T.take (j + 1)).all contB := by rw [hts, List.all_append, ← hq]; simp
              have h192 := and192 b'
              have hy64 : y < 64 := by omega
              replace hy := hide hy
              replace hX2 := hide hX2
              replace hX := hide hX
              replace hq := hide hq
              replace hb' := hide hb'
              replace hts := hide hts
              replace hXn := hide hXn
              replace hqn := hide hqn
              replace hix2 := hide hix2
              obtain ⟨qb, hqb⟩ : ∃ qb, qb = contB b' := ⟨_, rfl⟩
              rw [← hqb] at h192 hqn
              replace hqb := hide hqb
              cases q <;> cases qb
              all_goals
                have h192' := h192
                simp only [Bool.false_eq_true, iff_true, iff_false, iff_self] at h192'
                replace h192 := hide h192
                go_wp2_with fail
                case roundEnd => exact ⟨⟨j + 1, X2, _, rfl, rfl, rfl, by omega, hXn.out, by rw [← hqn.out]; first | rfl | simp [h192'], trivial⟩, by simp only [intOf]; omega⟩
            · obtain rfl : j = k := by omega
              have hTT : T.take j = T := List.take_of_length_le (by omega)
              rw [hTT] at hX hq
              have hin := fun W => in_any (lo : Int) (hi' : Int) (-1) (X : Int) W
              have hhf := fun W => half_any (X : Int) W
              obtain ⟨z, hz⟩ : ∃ z, z = inB (lo : Int) (hi' : Int) (-1) (X : Int) := ⟨_, rfl⟩
              obtain ⟨v, hv⟩ : ∃ v, v = (decide (55296 ≤ (X : Int)) && decide ((X : Int) ≤ 57343)) := ⟨_, rfl⟩
              rw [← hz] at hin
              rw [← hv] at hhf
              have hok : okF i b t = (q && z && !v) := by
                unfold okF okR
                rw [← hf.out]
                simp only
                rw [← hn0.out, ← hT.out, ← hX, ← hq, hz, hv, show (b.toNat / d == q') = true from beq_iff_eq.2 (hhd.out.1 hA)]
                unfold inB
                have e1 : (55296 ≤ (X : Int)) ↔ 55296 ≤ X := by omega
                have e2 : ((X : Int) ≤ 57343) ↔ X ≤ 57343 := by omega
                have e3 : ((X : Int) != -1) = true := bne_iff_ne.2 (by omega)
                simp only [e1, e2, e3, Int.ofNat_le, hk, decide_true, Bool.true_and, Bool.and_true, Bool.and_assoc]
              replace hin := hide hin
              replace hhf := hide hhf
              replace hok := hide hok
              replace hX := hide hX
              replace hq := hide hq
              replace hz := hide hz
              replace hv := hide hv
              replace hix2 := hide hix2
              have hcl2 := hcl.out
              cases q
              · go_wp2_with fail
                case roundEnd =>
                  refine ⟨⟨i + 1, rfl, by omega, hEW, fun j' hj' => ?_⟩, by simp only [intOf]; omega⟩
                  by_cases h : j' < i
                  · exact hno.out j' h
                  · obtain rfl : j' = i := by omega
                    exact hok.out
              · go_wp2_with fail
                refine (hin.out _).mono ?_
                rintro e w2 ⟨rfl, hE2⟩
                cases z
                · go_wp2_with fail
                  case roundEnd =>
                    refine ⟨⟨i + 1, rfl, by omega, (hEW.trans hE2), fun j' hj' => ?_⟩, by simp only [intOf]; omega⟩
                    by_cases h : j' < i
                    · exact hno.out j' h
                    · obtain rfl : j' = i := by omega
                      exact hok.out
                · go_wp2_with fail
                  refine (hhf.out _).mono ?_
                  rintro e w3 ⟨rfl, rfl⟩
                  cases v
                  · have hRR := decR_form hi hb8 hno.out hok.out
                    rw [← hf.out, ← hn0.out, ← hR.out] at hRR
                    simp only at hRR
                    rw [← hT.out, ← hX.out] at hRR
                    obtain ⟨R1, R2⟩ := R
                    simp only [Prod.mk.injEq] at hRR
                    obtain ⟨rfl, rfl⟩ := hRR
                    have hr2 := Row.ext hr1 hE2
                    have hcl3 := hr2.get
                    go_wp2_with fail
                    go_quiet (fail)
                    go_wp2_with fail
                    go_ret2
                    exact ⟨rfl, (hEW.trans hE2).drewN _⟩
                  · go_wp2_with fail
                    case roundEnd =>
                      refine ⟨⟨i + 1, rfl, by omega, (hEW.trans hE2), fun j' hj' => ?_⟩, by simp only [intOf]; omega⟩
                      by_cases h : j' < i
                      · exact hno.out j' h
                      · obtain rfl : j' = i := by omega
                        exact hok.out
        · have hki : ¬ ((k : Int) + 1) ≤ (l.length : Int) - (at_ : Int) := by have := htl.out; omega
          have hoki : okF i b t = false := by
            unfold okF okR
            rw [← hf.out]
            simp [hk]
          replace hoki := hide hoki
          replace hpr := hide hpr
          go_wp2_with fail
          case roundEnd =>
            refine ⟨⟨i + 1, rfl, by omega, (hE.alloc _), fun j hj => ?_⟩, by simp only [intOf]; omega⟩
            by_cases h : j < i
            · exact hno.out j h
            · obtain rfl : j = i := by omega
              exact hoki.out
      · have hoki : okF i b t = false := by
          unfold okF
          rw [← hf.out]
          have : ¬ b.toNat / d = q' := fun h => hA (hhd.2 h)
          simp [this]
        replace hoki := hide hoki
        replace hhd := hide hhd
        replace hpr := hide hpr
        go_wp2_with fail
        case roundEnd =>
          refine ⟨⟨i + 1, rfl, by omega, (hE.alloc _), fun j hj => ?_⟩, by simp only [intOf]; omega⟩
          by_cases h : j < i
          · exact hno.out j h
          · obtain rfl : j = i := by omega
            exact hoki.out
    · obtain rfl : i = 3 := by omega
      have hRv : R = (65533, 1) := by
        rw [hR.out]
        exact decR_none hb8 hno.out
      obtain ⟨R1, R2⟩ := R
      simp only [Prod.mk.injEq] at hRv
      obtain ⟨rfl, rfl⟩ := hRv
      go_wp2_with fail
      all_goals
        go_ret2
        exact ⟨rfl, hE⟩
end
section
open Go.RowKit
set_option maxRecDepth 100000 in
theorem udecode_any (l : List UInt8) (at_ : Nat) (w : World) (hat : at_ < l.length) (hl : l.length ≤ 1073741824) :
    Calls Tryz.prog 191 #[.string ⟨l.toArray⟩, .int .i64 (at_ : Int)] w fun e w' => e = .returned (.tuple #[.int .i64 (decR (l.drop at_)).1, .int .i64 (decR (l.drop at_)).2]) ∧ Ext w w' := by
  obtain ⟨b, hb⟩ : ∃ b, l[at_]? = some b := ⟨_, List.getElem?_eq_getElem hat⟩
  by_cases hb8 : b.toNat < 128
  · have hbt : decR (l.drop at_) = (b.toNat, 1) := by
      rw [List.drop_eq_getElem_cons hat, (List.getElem?_eq_some_iff.1 hb).2, decR, if_pos hb8]
    rw [hbt]
    have hix := fun W => run_strindex hb (z := (at_ : Int)) rfl W
    have hb8i : (b.toNat : Int) < 128 := by omega
    replace hb := hide hb
    replace hbt := hide hbt
    go_enter Tryz.func191, Tryz.ntmps191
    go_wp2_with fail
    all_goals
      go_ret2
      exact ⟨rfl, Ext.refl w⟩
  · exact decode1_any l at_ b w hb hl hb8
end
section
open Go.RowKit
set_option maxRecDepth 100000 in
theorem elemZ : Elem Tryz.prog 40 3 1 8 := ⟨Tryz.underlying40, ⟨_, _, rfl, rfl, rfl, rfl, rfl⟩, by omega, by omega⟩
def NV (n : Nat) : Value := .int .i64 (n : Int)
def NewN (w : World) (l : List Nat) (e : Ending) (w' : World) : Prop := ∃ A c, e = .returned (.slice A l.length c) ∧ Buf w' w.heap.size 3 A l.length c (l.map NV) ∧ Ext w w'
set_option maxRecDepth 100000 in
set_option maxHeartbeats 1000000 in
theorem runes_any (l : List UInt8) (w : World) (hl : l.length ≤ 1073741824) :
    Calls Tryz.prog 176 #[.string ⟨l.toArray⟩] w (NewN w (runesL l)) := by
  have hdec := hide (fun at_ W (h : at_ < l.length) => udecode_any l at_ W h hl)
  obtain ⟨n, hn⟩ : ∃ n, n = l.length := ⟨_, rfl⟩
  have hlen : (⟨l.toArray⟩ : ByteArray).size = n := by rw [hn]; exact ByteArray.size_mk_toArray l
  rw [← hn] at hl hdec
  replace hn := hide hn
  go_enter Tryz.func176, Tryz.ntmps176
  go_wp2_with fail
  go_loopw [3, 4] (fun s3 s4 wr => ∃ (at_ c : Nat) (A : Option Addr) (D : List Nat), s3 = .slice A D.length c ∧ s4 = .int .i64 (at_ : Int) ∧ at_ ≤ n ∧ D.length ≤ at_ ∧ Hid (runesL l = D ++ runesL (l.drop at_)) ∧ Hid (Buf wr w.heap.size 3 A D.length c (D.map NV)) ∧ Hid (Ext w wr)) (fun _ s4 _ => n - (intOf s4).toNat)
  case atStart => exact ⟨0, 0, none, [], rfl, rfl, by omega, by simp, hide rfl, hide (Buf.nil _ _ _), hide (Ext.refl w)⟩
  case round =>
    obtain ⟨at_, c, A, D, rfl, rfl, hat, hD, hdn, hb, hE⟩ := hrel
    by_cases h : at_ < n
    · have hst := runesL_at (s := l) (at_ := at_) (by rw [← hn.out]; exact h)
      obtain ⟨r, hr⟩ : ∃ r, r = (decR (l.drop at_)).1 := ⟨_, rfl⟩
      obtain ⟨k, hk⟩ : ∃ k, k = (decR (l.drop at_)).2 := ⟨_, rfl⟩
      rw [← hr, ← hk, ← hn.out] at hst
      have hst1 := hide hst.1
      have hst2 := hst.2.1
      have hst3 := hst.2.2
      clear hst
      have hd := hide (fun W => hdec.out at_ W h)
      rw [← hr, ← hk] at hd
      replace hr := hide hr
      replace hk := hide hk
      go_wp2_with fail
      refine (hd.out _).mono ?_
      rintro e w2 ⟨rfl, hE2⟩
      have hb2 := hide (hb.out.ext hE2)
      have hE3 := hE.out.trans hE2
      have hsz := hE3.size
      replace hE3 := hide hE3
      go_wp2_with (at_builtin; refine wpList_bufN elemZ hb2.out (.tmp 17) (.tmp 19) rfl rfl rfl rfl (one_of rfl) (by simp; omega) hsz (fun A3 c3 w4 hb4 hE4 => ?_))
      go_roundw
      case rel => exact ⟨at_ + k, c3, A3, D ++ [r], by simp, by simp, by omega, by simp; omega, hide (by rw [hdn.out, hst1.out]; simp), hide (by simpa [NV] using hb4), hide (hE4 w hE3.out (Nat.le_refl _))⟩
      case measure => simp [intOf]; omega
    · obtain rfl : at_ = n := by omega
      have hDl : D = runesL l := by
        rw [hdn.out, List.drop_eq_nil_of_le (by rw [← hn.out]; exact Nat.le_refl _), runesL_nil, List.append_nil]
      subst hDl
      go_wp2_with fail
      go_ret
      exact ⟨A, c, rfl, hb.out, hE.out⟩
end
section
open Go.RowKit
def risB (n : Int) : Int → List Int → Bool
  | _, [] => true
  | lo, x :: t => decide (lo < x) && decide (x < n) && risB n x t
def IV (x : Int) : Value := .int .i64 x
def idV : Value := .func (.func 143) #[] #[]
set_option maxRecDepth 100000 in
theorem idv_any (x : Int) (w : World) : Calls Tryz.prog 143 #[.int .i64 x] w fun e w' => e = .returned (.int .i64 x) ∧ w' = w := by
  go_enter Tryz.func143, Tryz.ntmps143
  go_wp2
  go_ret
  exact ⟨rfl, rfl⟩
set_option maxRecDepth 100000 in
set_option maxHeartbeats 1000000 in
theorem risingI_any (xs : List Int) (A : Option Addr) (m c : Nat) (n : Int) (w : World) (hm : m = xs.length) (hc : Cells w A (xs.map IV)) (hm9 : m ≤ 1000000000) :
    Calls Tryz.prog 142 #[.slice A m c, .int .i64 n, idV] w fun e w' => e = .returned (.bool (risB n (-1) xs)) ∧ Ext w w' := by
  unfold idV
  have hid := hide (fun x W => idv_any x W)
  obtain ⟨Z, hZ⟩ : ∃ Z, Z = risB n (-1) xs := ⟨_, rfl⟩
  rw [← hZ]
  replace hZ := hide hZ
  replace hc := hide hc
  replace hm := hide hm
  go_enter Tryz.func142, Tryz.ntmps142
  go_wp2_with fail
  go_loopw [7, 13] (fun s7 s13 wr => ∃ (i : Nat) (p : Int), s7 = .int .i64 p ∧ s13 = .int .i64 (i : Int) ∧ i ≤ m ∧ Hid (Z = risB n p (xs.drop i)) ∧ wr = w) (fun _ s13 _ => m - (intOf s13).toNat)
  case atStart => exact ⟨0, -1, rfl, rfl, by omega, hide (by rw [hZ.out]; rfl), rfl⟩
  case round =>
    obtain ⟨i, p, rfl, rfl, hi, hin, rfl⟩ := hrel
    by_cases h : i < m
    · obtain ⟨x, hxi⟩ : ∃ x, xs[i]? = some x := ⟨_, List.getElem?_eq_getElem (by rw [← hm.out]; exact h)⟩
      obtain ⟨g, o, hA, hcl⟩ := hc.out.at_ (by rw [List.length_map, ← hm.out]; omega)
      subst hA
      have hld := hcl i (IV x) (by rw [List.getElem?_map, hxi]; rfl)
      unfold IV at hld
      have hdr : xs.drop i = x :: xs.drop (i + 1) := by
        rw [List.drop_eq_getElem_cons (List.getElem?_eq_some_iff.1 hxi).1]
        congr 1
        exact (List.getElem?_eq_some_iff.1 hxi).2
      have hin2 := hin.out
      rw [hdr, risB] at hin2
      have hca := hide (fun W => hid.out x W)
      replace hcl := hide hcl
      replace hxi := hide hxi
      replace hdr := hide hdr
      by_cases h1 : p < x
      · by_cases h2 : x < n
        · rw [decide_eq_true h1, decide_eq_true h2, Bool.true_and, Bool.true_and] at hin2
          replace hin2 := hide hin2
          go_wp2_with fail
          refine (hca.out _).mono ?_
          rintro e w2 ⟨rfl, rfl⟩
          go_wp2_with fail
          exact ⟨⟨i + 1, x, rfl, rfl, by omega, hin2, trivial⟩, by simp only [intOf]; omega⟩
        · rw [decide_eq_true h1, decide_eq_false h2, Bool.true_and, Bool.false_and] at hin2
          subst hin2
          go_wp2_with fail
          refine (hca.out _).mono ?_
          rintro e w2 ⟨rfl, rfl⟩
          go_wp2_with fail
          go_ret
          exact ⟨rfl, Ext.refl _⟩
      · rw [decide_eq_false h1, Bool.false_and, Bool.false_and] at hin2
        subst hin2
        go_wp2_with fail
        refine (hca.out _).mono ?_
        rintro e w2 ⟨rfl, rfl⟩
        go_wp2_with fail
        go_ret
        exact ⟨rfl, Ext.refl _⟩
    · obtain rfl : i = m := by omega
      have hZe : Z = true := by rw [hin.out, List.drop_eq_nil_of_le (by rw [← hm.out]; exact Nat.le_refl _), risB]
      subst hZe
      go_wp2_with fail
      go_ret
      exact ⟨rfl, Ext.refl _⟩
end
section
def chunkL {α : Type} (k : Nat) (l : List α) : List (List α) := if h : l = [] ∨ k = 0 then [] else l.take k :: chunkL k (l.drop k)
termination_by l.length
decreasing_by
  rw [List.length_drop]
  have : 0 < l.length := List.length_pos_iff.2 (fun e => h (.inl e))
  omega
section
variable {α : Type} {k : Nat}
theorem chunkL_nil : chunkL k ([] : List α) = [] := by rw [chunkL, dif_pos (.inl rfl)]
theorem chunkL_cons {l : List α} (hl : l ≠ []) (hk : 0 < k) : chunkL k l = l.take k :: chunkL k (l.drop k) := by rw [chunkL, dif_neg (fun h => h.elim hl (by omega))]
theorem chunkL_flat (hk : 0 < k) (l : List α) : (chunkL k l).flatMap id = l := by
  by_cases h : l = []
  · rw [h, chunkL_nil]; rfl
  · have : 0 < l.length := List.length_pos_iff.2 h
    rw [chunkL_cons h hk, List.flatMap_cons, chunkL_flat hk (l.drop k)]
    exact List.take_append_drop k l
termination_by l.length
decreasing_by rw [List.length_drop]; omega
theorem chunkL_len (hk : 0 < k) (l : List α) : (chunkL k l).length = (l.length + k - 1) / k := by
  by_cases h : l = []
  · rw [h, chunkL_nil]
    symm
    exact Nat.div_eq_of_lt (by simp; omega)
  · have hl : 0 < l.length := List.length_pos_iff.2 h
    rw [chunkL_cons h hk, List.length_cons, chunkL_len hk (l.drop k), List.length_drop]
    rcases Nat.lt_or_ge k l.length with h1 | h1
    · rw [show l.length + k - 1 = (l.length - k + k - 1) + k by omega, Nat.add_div_right _ hk]
    · rw [show l.length - k + k - 1 = k - 1 by omega, Nat.div_eq_of_lt (by omega), show l.length + k - 1 = (l.length - 1) + k by omega, Nat.add_div_right _ hk, Nat.div_eq_of_lt (by omega)]
termination_by l.length
decreasing_by rw [List.length_drop]; omega
theorem chunkL_get (hk : 0 < k) : ∀ (i : Nat) (l : List α), i * k < l.length → (chunkL k l)[i]? = some ((l.drop (i * k)).take k)
  | 0, l, h => by
    have : l ≠ [] := fun e => by rw [e] at h; simp at h
    rw [chunkL_cons this hk]
    simp
  | i + 1, l, h => by
    have hl : l ≠ [] := fun e => by rw [e] at h; simp at h
    rw [chunkL_cons hl hk, List.getElem?_cons_succ, chunkL_get hk i (l.drop k) (by rw [List.length_drop]; rw [Nat.succ_mul] at h; omega), List.drop_drop]
    congr 3
    rw [Nat.succ_mul]; omega
theorem chunkL_none (hk : 0 < k) (i : Nat) (l : List α) (h : l.length ≤ i * k) : (chunkL k l).length ≤ i := by
  rw [chunkL_len hk, Nat.div_le_iff_le_mul_add_pred hk, Nat.mul_comm]
  omega
theorem chunkL_ne (hk : 0 < k) {l b : List α} (hb : b ∈ chunkL k l) : b ≠ [] ∧ b.length ≤ k := by
  by_cases h : l = []
  · rw [h, chunkL_nil] at hb; cases hb
  · have hl : 0 < l.length := List.length_pos_iff.2 h
    rw [chunkL_cons h hk] at hb
    rcases List.mem_cons.1 hb with rfl | hb
    · refine ⟨fun e => ?_, List.length_take_le ..⟩
      have := congrArg List.length e
      rw [List.length_take, List.length_nil] at this
      omega
    · exact chunkL_ne hk hb
termination_by l.length
decreasing_by rw [List.length_drop]; omega
theorem chunkL_mem (hk : 0 < k) {l b : List α} (hb : b ∈ chunkL k l) : ∀ x ∈ b, x ∈ l := by
  intro x hx
  rw [← chunkL_flat hk l]
  exact List.mem_flatMap.2 ⟨b, hb, hx⟩
theorem chunkL_take (hk : 0 < k) (l : List α) : ∀ i, ((chunkL k l).take i).flatMap id = l.take (i * k)
  | 0 => by simp
  | i + 1 => by
    rcases Nat.lt_or_ge (i * k) l.length with h | h
    · have hg := chunkL_get hk i l h
      have hi := (List.getElem?_eq_some_iff.1 hg)
      rw [List.take_add_one, hg, List.flatMap_append, chunkL_take hk l i]
      show _ ++ [(l.drop (i * k)).take k].flatMap id = _
      rw [List.flatMap_cons, List.flatMap_nil, List.append_nil]
      show _ ++ (l.drop (i * k)).take k = _
      rw [Nat.succ_mul, List.take_add]
    · have h1 := chunkL_none hk i l h
      rw [List.take_of_length_le (by omega), chunkL_flat hk, List.take_of_length_le (by rw [Nat.succ_mul]; omega)]
end
end
section
def vb (n : Nat) : List UInt8 := if _h : n < 128 then [UInt8.ofNat n] else UInt8.ofNat (n % 128 + 128) :: vb (n / 128)
termination_by n
decreasing_by omega
theorem vb_lt {n : Nat} (h : n < 128) : vb n = [UInt8.ofNat n] := by rw [vb, dif_pos h]
theorem vb_ge {n : Nat} (h : ¬ n < 128) : vb n = UInt8.ofNat (n % 128 + 128) :: vb (n / 128) := by rw [vb, dif_neg h]
theorem vb_len : ∀ (k n : Nat), n < 128 ^ k → (vb n).length ≤ max k 1
  | 0, n, h => by
    have : n = 0 := by simpa using h
    subst this
    rw [vb_lt (by omega)]
    simp
  | k + 1, n, h => by
    by_cases hn : n < 128
    · rw [vb_lt hn]; simp
    · rw [vb_ge hn, List.length_cons]
      have ih := vb_len k (n / 128) (by rw [Nat.pow_succ] at h; omega)
      have : 1 ≤ k := by
        rcases Nat.eq_zero_or_pos k with rfl | hk
        · simp at h; omega
        · exact hk
      omega
theorem vb_len10 {n : Nat} (h : n < 18446744073709551616) : (vb n).length ≤ 10 := vb_len 10 n (by omega)
theorem vb_pos (n : Nat) : 1 ≤ (vb n).length := by
  by_cases hn : n < 128
  · rw [vb_lt hn]; simp
  · rw [vb_ge hn]; simp
def getV (i : Nat) : List UInt8 → Except Nat (Nat × List UInt8)
  | [] => .error 6
  | x :: l => if 10 ≤ i then .error 6 else if (i = 9 ∧ 1 < x.toNat) ∨ (0 < i ∧ x.toNat = 0) then .error 20 else
    if x.toNat < 128 then .ok (x.toNat, l) else match getV (i + 1) l with
      | .ok (n, r) => .ok (x.toNat - 128 + 128 * n, r)
      | .error e => .error e
theorem getV_lt : ∀ (l : List UInt8) (i n : Nat) (r : List UInt8), getV i l = .ok (n, r) → i ≤ 9 ∧ n < 2 * 128 ^ (9 - i) ∧ ∃ p, l = p ++ r ∧ p ≠ []
  | [], i, n, r, h => by simp [getV] at h
  | x :: l, i, n, r, h => by
    unfold getV at h
    by_cases h10 : 10 ≤ i
    · rw [if_pos h10] at h; cases h
    rw [if_neg h10] at h
    by_cases hb : (i = 9 ∧ 1 < x.toNat) ∨ (0 < i ∧ x.toNat = 0)
    · rw [if_pos hb] at h; cases h
    rw [if_neg hb] at h
    have hx := x.toNat_lt
    by_cases h128 : x.toNat < 128
    · rw [if_pos h128] at h
      injection h with h
      injection h with h1 h2
      subst h1 h2
      refine ⟨by omega, ?_, [x], rfl, by simp⟩
      by_cases h9 : i = 9
      · subst h9
        simp only [Nat.sub_self, Nat.pow_zero]
        omega
      · have : 128 ^ 1 ≤ 128 ^ (9 - i) := Nat.pow_le_pow_right (by omega) (by omega)
        omega
    · rw [if_neg h128] at h
      split at h
      · rename_i m r' hg
        injection h with h
        injection h with h1 h2
        subst h1 h2
        obtain ⟨h3, h4, p, hp, _⟩ := getV_lt l (i + 1) m r' hg
        refine ⟨by omega, ?_, x :: p, by rw [hp]; rfl, by simp⟩
        have : 9 - i = (9 - (i + 1)) + 1 := by omega
        rw [this, Nat.pow_succ]
        omega
      · cases h
theorem getV_lt64 {l : List UInt8} {n : Nat} {r : List UInt8} (h : getV 0 l = .ok (n, r)) : n < 18446744073709551616 := by
  have := (getV_lt l 0 n r h).2.1
  omega
theorem getV_vb : ∀ (k i n : Nat) (r : List UInt8), k + i = 9 → n < 2 * 128 ^ k → (0 < i → 0 < n) → getV i (vb n ++ r) = .ok (n, r)
  | k, i, n, r, hk, hn, h0 => by
    by_cases h128 : n < 128
    · rw [vb_lt h128]
      have hx : (UInt8.ofNat n).toNat = n := by rw [UInt8.toNat_ofNat']; omega
      show getV i (UInt8.ofNat n :: r) = _
      unfold getV
      rw [if_neg (by omega), hx, if_neg, if_pos h128]
      rintro (⟨rfl, h1⟩ | ⟨h1, h2⟩)
      · obtain rfl : k = 0 := by omega
        simp at hn
        omega
      · have := h0 h1; omega
    · rw [vb_ge h128]
      have hx : (UInt8.ofNat (n % 128 + 128)).toNat = n % 128 + 128 := by rw [UInt8.toNat_ofNat']; omega
      show getV i (UInt8.ofNat (n % 128 + 128) :: (vb (n / 128) ++ r)) = _
      have hk0 : 1 ≤ k := by
        rcases Nat.eq_zero_or_pos k with rfl | h
        · simp at hn; omega
        · exact h
      obtain ⟨k, rfl⟩ : ∃ j, k = j + 1 := ⟨k - 1, by omega⟩
      have ih := getV_vb k (i + 1) (n / 128) r (by omega) (by rw [Nat.pow_succ] at hn; omega) (fun _ => by omega)
      unfold getV
      rw [if_neg (by omega), hx, if_neg (by omega), if_neg (by omega), ih]
      simp only
      rw [show n % 128 + 128 - 128 + 128 * (n / 128) = n by omega]
theorem getV_put {n : Nat} (h : n < 18446744073709551616) (r : List UInt8) : getV 0 (vb n ++ r) = .ok (n, r) := getV_vb 9 0 n r rfl (by omega) (by omega)
def zig (n : Int) : Nat := if 0 ≤ n then 2 * n.toNat else 2 * (-1 - n).toNat + 1
def unzig (u : Nat) : Int := if u % 2 = 0 then ((u / 2 : Nat) : Int) else -1 - ((u / 2 : Nat) : Int)
theorem unzig_zig (n : Int) : unzig (zig n) = n := by
  unfold unzig zig
  split <;> split <;> omega
theorem zig_lt {n : Int} (h1 : -9223372036854775808 ≤ n) (h2 : n ≤ 9223372036854775807) : zig n < 18446744073709551616 := by
  unfold zig
  split <;> omega
theorem unzig_ok {u : Nat} (h : u < 18446744073709551616) : -9223372036854775808 ≤ unzig u ∧ unzig u ≤ 9223372036854775807 := by
  unfold unzig
  split <;> omega
def vall (l : List Int) : List UInt8 := l.flatMap fun n => vb (zig n)
end
section
abbrev Po := Int × List Int
def okPs (l : List Po) : Bool := risB 65536 (-1) (l.map (·.1)) && l.all fun p => decide (0 < p.2.length) && risB 1048576 (-1) p.2
def stepsL : Int → List Int → List UInt8
  | _, [] => []
  | last, n :: t => vb (n - last - 1).toNat ++ stepsL n t
def onePo (last : Int) (p : Po) : List UInt8 := vb (p.1 - last - 1).toNat ++ vb p.2.length ++ stepsL (-1) p.2
def blockPo : Int → List Po → List UInt8
  | _, [] => []
  | last, p :: t => onePo last p ++ blockPo p.1 t
def lastPo : Int → List Po → Int
  | last, [] => last
  | _, p :: t => lastPo p.1 t
def headPo : Int → List (List Po) → List UInt8
  | _, [] => []
  | last, b :: bs => vb (lastPo last b).toNat ++ vb (blockPo last b).length ++ headPo (lastPo last b) bs
def encPs (l : List Po) : List UInt8 := vb l.length ++ headPo (-1) (chunkL 32 l) ++ blockPo (-1) l
theorem blockPo_app : ∀ (a b : List Po) (last : Int), blockPo last (a ++ b) = blockPo last a ++ blockPo (lastPo last a) b
  | [], b, last => rfl
  | p :: t, b, last => by
    show onePo last p ++ blockPo p.1 (t ++ b) = _
    rw [blockPo_app t b]
    show _ = (onePo last p ++ blockPo p.1 t) ++ blockPo (lastPo p.1 t) b
    rw [List.append_assoc]
theorem lastPo_app : ∀ (a b : List Po) (last : Int), lastPo last (a ++ b) = lastPo (lastPo last a) b
  | [], b, last => rfl
  | p :: t, b, last => lastPo_app t b p.1
theorem headPo_app : ∀ (a b : List (List Po)) (last : Int), headPo last (a ++ b) = headPo last a ++ headPo (lastPo last (a.flatMap id)) b
  | [], b, last => rfl
  | p :: t, b, last => by
    show vb (lastPo last p).toNat ++ vb (blockPo last p).length ++ headPo (lastPo last p) (t ++ b) = _
    rw [headPo_app t b, List.flatMap_cons]
    show _ = (vb (lastPo last p).toNat ++ vb (blockPo last p).length ++ headPo (lastPo last p) t) ++ headPo (lastPo last (p ++ t.flatMap id)) b
    rw [lastPo_app, List.append_assoc _ _ (headPo _ b)]
theorem risB_len {n : Int} : ∀ {l : List Int} {lo : Int}, risB n lo l = true → lo < n → (l.length : Int) < n - lo
  | [], lo, _, h => by simp; omega
  | y :: t, lo, h, _ => by
    unfold risB at h
    rw [Bool.and_eq_true, Bool.and_eq_true] at h
    have h1 := of_decide_eq_true h.1.1
    have h2 := of_decide_eq_true h.1.2
    have := risB_len h.2 h2
    rw [List.length_cons]
    omega
theorem vb_small {n k : Nat} (h : n < 128 ^ k) (hk : 1 ≤ k) : (vb n).length ≤ k := by
  have := vb_len k n h
  omega
theorem stepsL_len : ∀ {l : List Int} {lo : Int}, risB 1048576 lo l = true → -1 ≤ lo → (stepsL lo l).length ≤ 3 * l.length
  | [], lo, _, _ => by simp [stepsL]
  | y :: t, lo, h, hlo => by
    unfold risB at h
    rw [Bool.and_eq_true, Bool.and_eq_true] at h
    have h1 := of_decide_eq_true h.1.1
    have h2 := of_decide_eq_true h.1.2
    have ih := stepsL_len h.2 (by omega)
    have hv := vb_small (n := (y - lo - 1).toNat) (k := 3) (by have : (128 : Nat) ^ 3 = 2097152 := by decide
                                                               omega) (by omega)
    show (vb _ ++ stepsL y t).length ≤ _
    rw [List.length_append, List.length_cons]
    omega
end
section
open Go.ChangeShapes Go.WideShapes Go.ChangeAt Go.RowKit
open Go.ChangeMaps (open_string shut_string)
theorem wf_i64 {a : Int} (h : (Lit.int .i64 a).wf = true) : -9223372036854775808 ≤ a ∧ a ≤ 9223372036854775807 := by
  simp [Lit.wf, IntKind.has, IntKind.min, IntKind.max, IntKind.bits, IntKind.signed] at h
  omega
end
section
open Go.ChangeShapes Go.WideShapes Go.Deep Go.RowKit
theorem cell_lt {w : World} {a : Addr} {v : Value} (h : w.cell? a = some v) : a.block < w.heap.size ∧ a.spot = none := by
  unfold World.cell? at h
  split at h
  · rename_i c _ _ hb
    refine ⟨(Array.getElem?_eq_some_iff.1 hb).1, ?_⟩
    cases hs : a.spot with
    | none => rfl
    | some s => rw [hs] at h; simp at h
  · cases h
theorem list_of {α : Type} {Q : Nat → α → Prop} : ∀ (n : Nat), (∀ i, i < n → ∃ x, Q i x) → ∃ l : List α, l.length = n ∧ ∀ i x, l[i]? = some x → Q i x
  | 0, _ => ⟨[], rfl, fun i x h => by simp at h⟩
  | n + 1, h => by
    obtain ⟨l, hl, hq⟩ := list_of n fun i hi => h i (by omega)
    obtain ⟨x, hx⟩ := h n (by omega)
    refine ⟨l ++ [x], by simp [hl], fun i y hy => ?_⟩
    rw [List.getElem?_append] at hy
    split at hy
    · exact hq i y hy
    · rename_i hi
      have : i = n := by
        have := (List.getElem?_eq_some_iff.1 hy).1
        simp at this
        omega
      subst this
      rw [hl] at hy
      simp at hy
      rw [← hy]
      exact hx
section
variable {H : Type} {enc : TypeId × Value → H} {w : World} {base : Nat} {spare : Nat → Bool} {held : Bool}
end
end
section
open Go.ChangeShapes Go.WideShapes Go.Deep Go.RowKit
def strV (l : List UInt8) : Value := .string ⟨l.toArray⟩
theorem strV_bytes (s : ByteArray) : strV s.data.toList = .string s := by
  cases s
  simp [strV]
theorem str_list {s : ByteArray} (h : s.size ≤ maxLen) : Value.string s = strV s.data.toList ∧ s.data.toList.length ≤ 9223372036854775807 := by
  refine ⟨(strV_bytes s).symm, ?_⟩
  unfold maxLen at h
  rw [Array.length_toList]
  exact h
section
variable {H : Type} {enc : TypeId × Value → H} {w : World} {base : Nat} {spare : Nat → Bool} {held : Bool}
set_option maxRecDepth 100000 in
theorem in_strings {t e : TypeId} {fuel : Nat} {v : Value} {x : DataW H × List MemPlace} (ht : Tryz.prog.underlying t = some (.slice e)) (he : Tryz.prog.underlying e = some .string) (hc : Tryz.prog.cellsOf e = 1)
    (h : DataW.trod enc Tryz.prog w base spare held fuel t [v] = some x) :
    ∃ (A : Option Addr) (cap : Nat) (ss : List (List UInt8)), v = .slice A ss.length cap ∧ Cells w A (ss.map strV) ∧ (ss ≠ [] → ∀ a, A = some a → a.block < w.heap.size ∧ a.spot = none) ∧ ss.length ≤ cap ∧ ss.length ≤ 9223372036854775807 ∧ ∀ s ∈ ss, s.length ≤ 9223372036854775807 := by
  rcases open_strings ht he hc h with ⟨hcs, _⟩ | ⟨y, m, c, zs, hcs, _, hl, hm, hz, _, hcell, hwz⟩
  · obtain rfl : v = .slice none 0 0 := by simpa using hcs
    exact ⟨none, 0, [], rfl, .inl rfl, fun h => absurd rfl h, by simp, by simp, nofun⟩
  · obtain rfl : v = .slice (some y) m c := by simpa using hcs
    have hzl : m ≤ zs.length := by rw [hz]; split <;> omega
    have hml : m ≤ 9223372036854775807 := by unfold maxLen at hm; omega
    have hlen : ((zs.take m).map fun s => s.data.toList).length = m := by simp; omega
    refine ⟨some y, c, (zs.take m).map fun s => s.data.toList, by rw [hlen], ?_, ?_, by rw [hlen]; exact hl, by rw [hlen]; exact hml, fun s hs => ?_⟩
    · rcases Nat.eq_zero_or_pos m with rfl | hm0
      · exact .inl rfl
      · have h0 := hcell 0 (by omega)
        have hs := (cell_lt h0).2
        obtain ⟨b, o, s⟩ := y
        obtain rfl : s = none := hs
        refine .inr ⟨b, o, rfl, fun i u hu => ?_⟩
        rw [List.getElem?_map, List.getElem?_map, List.getElem?_take] at hu
        split at hu
        · rename_i hi
          have hi2 : i < zs.length := by omega
          rw [List.getElem?_eq_getElem hi2] at hu
          simp only [Option.map_some] at hu
          have h1 := hcell i hi2
          rw [Addr.add_lit] at h1
          rw [h1, ← hu, strV_bytes]
          simp [List.getD, hi2]
        · simp at hu
    · intro hne a ha
      obtain rfl : y = a := by simpa using ha
      have hm0 : 0 < m := by
        rcases Nat.eq_zero_or_pos m with rfl | hm0
        · exact absurd rfl hne
        · exact hm0
      exact cell_lt (hcell 0 (by omega))
    · obtain ⟨z, hz1, rfl⟩ := List.mem_map.1 hs
      have := hwz z (List.mem_of_mem_take hz1)
      unfold maxLen at this
      rw [Array.length_toList]
      exact this
end
end
section
open Go.RowKit
abbrev Fd := List UInt8 × List UInt8
def Fd.cells (f : Fd) : List Value := [strV f.1, strV f.2]
def fcells (fs : List Fd) : List Value := fs.flatMap Fd.cells
theorem fcells_len : ∀ fs : List Fd, (fcells fs).length = fs.length * 2
  | [] => rfl
  | f :: fs => by
    have := fcells_len fs
    unfold fcells at this ⊢
    rw [List.flatMap_cons, List.length_append, this, List.length_cons]
    simp [Fd.cells]
    omega
theorem fcells_get : ∀ (fs : List Fd) (i : Nat) (f : Fd) (k : Nat), fs[i]? = some f → k < 2 → (fcells fs)[i * 2 + k]? = f.cells[k]?
  | [], i, f, k, h, _ => by simp at h
  | x :: fs, 0, f, k, h, hk => by
    obtain rfl : x = f := by simpa using h
    unfold fcells
    rw [List.flatMap_cons, List.getElem?_append_left (by simp [Fd.cells]; omega), Nat.zero_mul, Nat.zero_add]
  | x :: fs, i + 1, f, k, h, hk => by
    have h' : fs[i]? = some f := by simpa using h
    have ih := fcells_get fs i f k h' hk
    unfold fcells at ih ⊢
    rw [List.flatMap_cons, List.getElem?_append_right (by simp [Fd.cells]; omega)]
    have : (i + 1) * 2 + k - (Fd.cells x).length = i * 2 + k := by
      have : (Fd.cells x).length = 2 := rfl
      omega
    rw [this]
    exact ih
theorem fcells_snoc (fs : List Fd) (f : Fd) : fcells (fs ++ [f]) = fcells fs ++ f.cells := by
  unfold fcells
  rw [List.flatMap_append]
  simp
theorem fcells_at {w : World} {A : Option Addr} {fs : List Fd} (h : Cells w A (fcells fs)) {i : Nat} {f : Fd} (hf : fs[i]? = some f) : ∃ g o, A = some ⟨g, o, none⟩ ∧ w.cell? ⟨g, o + i * 2, none⟩ = some (strV f.1) ∧ w.cell? ⟨g, o + i * 2 + 1, none⟩ = some (strV f.2) := by
  have hi := (List.getElem?_eq_some_iff.1 hf).1
  obtain ⟨g, o, hA, hc⟩ := h.at_ (by rw [fcells_len]; omega)
  refine ⟨g, o, hA, ?_, ?_⟩
  · exact hc (i * 2 + 0) _ (by rw [fcells_get fs i f 0 hf (by omega)]; rfl)
  · rw [Nat.add_assoc]
    exact hc (i * 2 + 1) _ (by rw [fcells_get fs i f 1 hf (by omega)]; rfl)
structure Ev where
  at_ : Int
  fs : List Fd
def Ev.val (e : Ev) (A : Option Addr) (c : Nat) : Value := .agg #[.int .i64 e.at_, .slice A e.fs.length c]
def nameC (c : UInt8) : Bool := decide (c.toNat = 95 ∨ (48 ≤ c.toNat ∧ c.toNat ≤ 57) ∨ (97 ≤ c.toNat ∧ c.toNat ≤ 122))
def nameL (s : List UInt8) : Bool := s.all nameC && decide (1 ≤ s.length ∧ s.length ≤ 32)
def checkF : List Fd → Nat
  | [] => 0
  | f :: fs => if nameL f.1 = false then 100 else if 4096 < f.2.length then 2 else checkF fs
def checkE (fs : List Fd) : Nat := if 16 < fs.length then 3 else checkF fs
theorem checkF_drop {fs : List Fd} {i : Nat} {f : Fd} (h : fs[i]? = some f) : checkF (fs.drop i) = if nameL f.1 = false then 100 else if 4096 < f.2.length then 2 else checkF (fs.drop (i + 1)) := by
  obtain ⟨hi, rfl⟩ := List.getElem?_eq_some_iff.1 h
  rw [List.drop_eq_getElem_cons hi]
  rfl
end
section
open Go.RowKit
theorem nameL_bad {s : List UInt8} {i : Nat} {x : UInt8} (h : s[i]? = some x) (hx : nameC x = false) : nameL s = false := by
  unfold nameL
  have : s.all nameC = false := by
    rw [List.all_eq_false]
    exact ⟨x, List.mem_of_getElem? h, by rw [hx]; simp⟩
  rw [this]
  rfl
theorem nameC_no {x : UInt8} (h : ¬ (x.toNat = 95 ∨ (48 ≤ x.toNat ∧ x.toNat ≤ 57) ∨ (97 ≤ x.toNat ∧ x.toNat ≤ 122))) : nameC x = false := decide_eq_false h
theorem nameC_yes {x : UInt8} (h : x.toNat = 95 ∨ (48 ≤ x.toNat ∧ x.toNat ≤ 57) ∨ (97 ≤ x.toNat ∧ x.toNat ≤ 122)) : nameC x = true := decide_eq_true h
theorem all_snoc {s : List UInt8} {i : Nat} {x : UInt8} (h : s[i]? = some x) (ha : (s.take i).all nameC = true) (hx : nameC x = true) : (s.take (i + 1)).all nameC = true := by
  obtain ⟨hi, rfl⟩ := List.getElem?_eq_some_iff.1 h
  rw [List.take_succ_eq_append_getElem hi, List.all_append, ha]
  simp [hx]
set_option maxRecDepth 100000 in
set_option maxHeartbeats 2000000 in
theorem isname_any (s : List UInt8) (w : World) (hs : s.length ≤ 9223372036854775807) : Calls Tryz.prog 190 #[.string ⟨s.toArray⟩] w fun e w' => e = .returned (.bool (nameL s)) ∧ Ext w w' := by
  obtain ⟨c1, W1, hcv, hB, hE1, hsz⟩ := run_bytes s w
  obtain ⟨z, hz⟩ : ∃ z, z = nameL s := ⟨_, rfl⟩
  rw [← hz]
  have hbad : ∀ i x, s[i]? = some x → nameC x = false → z = false := fun i x h hx => hz.trans (nameL_bad h hx)
  have hend : s.all nameC = true → z = (decide (1 ≤ s.length) && decide (s.length ≤ 32)) := fun h => by rw [hz]; unfold nameL; rw [h]; simp [Bool.decide_and]
  replace hend := hide hend
  replace hbad := hide hbad
  replace hE1 := hide hE1
  clear hz hsz
  go_enter Tryz.func190, Tryz.ntmps190
  go_wp2_with fail
  go_loopw [8] (fun s8 wr => ∃ i : Nat, s8 = .int .i64 i ∧ i ≤ s.length ∧ Hid ((s.take i).all nameC = true) ∧ wr = W1) (fun s8 _ => s.length - (intOf s8).toNat)
  case atStart => exact ⟨0, rfl, by omega, hide rfl, rfl⟩
  case round =>
    obtain ⟨i, rfl, hi, hall, rfl⟩ := hrel
    by_cases hin : i < s.length
    · obtain ⟨g, o, hg, hc⟩ := hB.at_ (by omega)
      injection hg with hg
      injection hg with hg ho
      subst hg
      subst ho
      have k0 := hc i hin
      rw [Nat.zero_add] at k0
      obtain ⟨x, hx⟩ : ∃ x, x = s[i] := ⟨_, rfl⟩
      have hsx : s[i]? = some x := by rw [hx]; exact List.getElem?_eq_getElem hin
      rw [← hx] at k0
      have hb1 : ¬ (x.toNat = 95 ∨ (48 ≤ x.toNat ∧ x.toNat ≤ 57) ∨ (97 ≤ x.toNat ∧ x.toNat ≤ 122)) → z = false := fun h => hbad.out i x hsx (nameC_no h)
      have hg1 : (x.toNat = 95 ∨ (48 ≤ x.toNat ∧ x.toNat ≤ 57) ∨ (97 ≤ x.toNat ∧ x.toNat ≤ 122)) → (s.take (i + 1)).all nameC = true := fun h => all_snoc hsx hall.out (nameC_yes h)
      replace hb1 := hide hb1
      replace hg1 := hide hg1
      clear hc hx hsx
      go_wp2_with fail
      all_goals first
        | (have q := hg1.out (by first | omega | (simp_all; done) | (simp_all; omega))
           replace q := hide q
           go_roundw
           case rel => exact ⟨i + 1, by go_num, by omega, q, trivial⟩
           case measure => simp [intOf]; omega)
        | (have q := hb1.out (by first | omega | (simp_all; done) | (simp_all; omega))
           go_ret
           exact ⟨ret_bool (by rw [q]), hE1.out⟩)
    · have hz := hend.out (by have h := hall.out; rw [List.take_of_length_le (by omega)] at h; exact h)
      replace hz := hide hz
      go_wp2_with fail
      all_goals go_ret
      all_goals refine ⟨ret_bool ?_, hE1.out⟩
      all_goals rw [hz.out]
      all_goals
        rw [Bool.eq_iff_iff]
        simp
        omega
theorem name_any (s : List UInt8) (w : World) (hs : s.length ≤ 9223372036854775807) : Calls Tryz.prog 172 #[.string ⟨s.toArray⟩] w fun e w' => e = .returned (.bool (nameL s)) ∧ Ext w w' := by
  have h := hide (isname_any s w hs)
  go_enter Tryz.func172, Tryz.ntmps172
  go_wp2_with fail
  refine h.out.mono ?_
  rintro e w1 ⟨rfl, hE⟩
  go_wp2_with fail
  go_ret
  exact ⟨rfl, hE⟩
set_option maxRecDepth 100000 in
set_option maxHeartbeats 2000000 in
theorem risname_any (s : List UInt8) (w : World) (hs : s.length ≤ 9223372036854775807) : Calls Tryz.prog 99 #[.string ⟨s.toArray⟩] w fun e w' => e = .returned (.bool (nameL s)) ∧ w' = w := by
  obtain ⟨z, hz⟩ : ∃ z, z = nameL s := ⟨_, rfl⟩
  rw [← hz]
  have hbad : ∀ i x, s[i]? = some x → nameC x = false → z = false := fun i x h hx => hz.trans (nameL_bad h hx)
  have hend : s.all nameC = true → z = (decide (1 ≤ s.length) && decide (s.length ≤ 32)) := fun h => by rw [hz]; unfold nameL; rw [h]; simp [Bool.decide_and]
  have hlen : ¬ (1 ≤ s.length ∧ s.length ≤ 32) → z = false := fun h => by rw [hz]; unfold nameL; rw [decide_eq_false h]; simp
  replace hend := hide hend
  replace hbad := hide hbad
  replace hlen := hide hlen
  clear hz
  by_cases hl : 1 ≤ s.length ∧ s.length ≤ 32
  · obtain ⟨hl1, hl2⟩ := hl
    go_enter Tryz.func99, Tryz.ntmps99
    go_wp2_with fail
    go_loopw [3] (fun s3 wr => ∃ i : Nat, s3 = .int .i64 i ∧ i ≤ s.length ∧ Hid ((s.take i).all nameC = true) ∧ wr = w) (fun s3 _ => s.length - (intOf s3).toNat)
    case atStart => exact ⟨0, rfl, by omega, hide rfl, rfl⟩
    case round =>
      obtain ⟨i, rfl, hi, hall, rfl⟩ := hrel
      by_cases hin : i < s.length
      · obtain ⟨x, hx⟩ : ∃ x, x = s[i] := ⟨_, rfl⟩
        have hsx : s[i]? = some x := by rw [hx]; exact List.getElem?_eq_getElem hin
        have hrun := fun W => run_strindex hsx (z := (i : Int)) rfl W
        have hb1 : ¬ (x.toNat = 95 ∨ (48 ≤ x.toNat ∧ x.toNat ≤ 57) ∨ (97 ≤ x.toNat ∧ x.toNat ≤ 122)) → z = false := fun h => hbad.out i x hsx (nameC_no h)
        have hg1 : (x.toNat = 95 ∨ (48 ≤ x.toNat ∧ x.toNat ≤ 57) ∨ (97 ≤ x.toNat ∧ x.toNat ≤ 122)) → (s.take (i + 1)).all nameC = true := fun h => all_snoc hsx hall.out (nameC_yes h)
        replace hb1 := hide hb1
        replace hg1 := hide hg1
        clear hx hsx
        go_wp2_with fail
        all_goals first
          | (have q := hg1.out (by first | omega | (simp_all; done) | (simp_all; omega))
             replace q := hide q
             go_roundw
             case rel => exact ⟨i + 1, by go_num, by omega, q, trivial⟩
             case measure => simp [intOf]; omega)
          | (have q := hb1.out (by first | omega | (simp_all; done) | (simp_all; omega))
             go_ret
             exact ⟨ret_bool (by rw [q]), rfl⟩)
      · have hz := hend.out (by have h := hall.out; rw [List.take_of_length_le (by omega)] at h; exact h)
        rw [decide_eq_true hl1, decide_eq_true hl2] at hz
        subst hz
        go_wp2_with fail
        go_ret
        exact ⟨rfl, rfl⟩
  · obtain rfl := hlen.out hl
    go_enter Tryz.func99, Tryz.ntmps99
    go_wp2_with fail
    all_goals first
      | (go_ret; exact ⟨rfl, rfl⟩)
      | (exfalso; simp_all; omega)
end
section
open Go.RowKit
structure Ev.Ok (e : Ev) (w : World) (A : Option Addr) : Prop where
  cells : Cells w A (fcells e.fs)
  many : e.fs.length ≤ 9223372036854775807
  long : ∀ f ∈ e.fs, f.1.length ≤ 9223372036854775807 ∧ f.2.length ≤ 9223372036854775807
theorem Ev.Ok.ext {e : Ev} {w w1 : World} {A : Option Addr} (h : e.Ok w A) (hE : Ext w w1) : e.Ok w1 A := ⟨h.cells.ext hE, h.many, h.long⟩
set_option maxRecDepth 100000 in
set_option maxHeartbeats 2000000 in
theorem echeck_any (e : Ev) (A : Option Addr) (c : Nat) (w : World) (h : e.Ok w A) : Calls Tryz.prog 130 #[e.val A c] w fun en w' => en = .returned (.int .i64 (checkE e.fs : Int)) ∧ Ext w w' := by
  obtain ⟨at_, fs⟩ := e
  obtain ⟨hc, hm, hl⟩ := h
  unfold Ev.val
  simp only at hc hm hl ⊢
  obtain ⟨n, hn⟩ : ∃ n, n = fs.length := ⟨_, rfl⟩
  obtain ⟨z, hz⟩ : ∃ z, z = checkE fs := ⟨_, rfl⟩
  have hmany : 16 < n → z = 3 := fun h => by rw [hz]; unfold checkE; rw [if_pos (by omega)]
  have hgo : n ≤ 16 → z = checkF (fs.drop 0) := fun h => by rw [hz]; unfold checkE; rw [if_neg (by omega)]; rfl
  have hnm := fun s W (hs : s.length ≤ 9223372036854775807) => name_any s W hs
  rw [← hz, ← hn]
  rw [← hn] at hm
  replace hn := hide hn
  replace hl := hide hl
  replace hnm := hide hnm
  replace hgo := hide hgo
  clear hz
  by_cases h16 : 16 < n
  · have hz3 := hmany h16
    subst hz3
    clear hmany
    go_enter Tryz.func130, Tryz.ntmps130
    go_wp2_with fail
    go_ret
    exact ⟨rfl, (Ext.refl w).alloc _⟩
  · clear hmany
    go_enter Tryz.func130, Tryz.ntmps130
    go_wp2_with fail
    have hz0 := hgo.out (by omega)
    replace hz0 := hide hz0
    have hEW : Ext w (w.alloc (.cells #[.int .i64 at_, .slice A n c] 37)) := (Ext.refl w).alloc _
    obtain ⟨W0, hW0⟩ : ∃ W0, W0 = w.alloc (.cells #[.int .i64 at_, .slice A n c] 37) := ⟨_, rfl⟩
    rw [← hW0] at hEW ⊢
    clear hW0
    go_loopw [12] (fun s12 wr => ∃ i : Nat, s12 = .int .i64 i ∧ i ≤ n ∧ Hid (z = checkF (fs.drop i)) ∧ Hid (Ext w wr)) (fun s12 _ => n - (intOf s12).toNat)
    case atStart => exact ⟨0, rfl, by omega, hz0, hide hEW⟩
    case round =>
      obtain ⟨i, rfl, hi, hz, hE⟩ := hrel
      by_cases hin : i < n
      · have hil : i < fs.length := by rw [← hn.out]; exact hin
        obtain ⟨f, hf⟩ : ∃ f, fs[i]? = some f := ⟨_, List.getElem?_eq_getElem hil⟩
        obtain ⟨g, o, rfl, k0, k1⟩ := fcells_at (hc.ext hE.out) hf
        obtain ⟨hl1, hl2⟩ := hl.out f (List.mem_of_getElem? hf)
        have hz2 := hz.out
        rw [checkF_drop hf] at hz2
        unfold strV at k0 k1
        have hglt : g < wr.heap.size := World.block_lt_of_cell? wr _ k0
        obtain ⟨nm, tx⟩ := f
        simp only at k0 k1 hl1 hl2 hz2
        have hnm1 := fun W => hnm.out nm W hl1
        obtain ⟨q, hq⟩ : ∃ q, q = nameL nm := ⟨_, rfl⟩
        rw [← hq] at hnm1 hz2
        replace hnm1 := hide hnm1
        replace hz2 := hide hz2
        clear hf hq
        go_wp2_with fail
        have hrow : Row (wr.alloc (.cells #[.string ⟨nm.toArray⟩, .string ⟨tx.toArray⟩] 105)) wr.heap.size 105 #[.string ⟨nm.toArray⟩, .string ⟨tx.toArray⟩] := Row.new wr _ _
        have hE1 : Ext w (wr.alloc (.cells #[.string ⟨nm.toArray⟩, .string ⟨tx.toArray⟩] 105)) := hE.out.trans ((Ext.refl wr).alloc _)
        refine (hnm1.out _).mono ?_
        rintro e w3 ⟨rfl, hE3⟩
        have k3 : w3.cell? ⟨wr.heap.size, 1, none⟩ = some (.string ⟨tx.toArray⟩) := hE3.cell (hrow.cell 1 rfl)
        have hE4 := hide (hE1.trans hE3)
        clear hrow hE1
        cases q with
        | false =>
          obtain rfl : z = 100 := by rw [hz2.out]; rfl
          go_wp2_with fail
          go_ret
          exact ⟨rfl, hE4.out⟩
        | true =>
          by_cases hlt : 4096 < tx.length
          · obtain rfl : z = 2 := by rw [hz2.out, if_neg (by simp), if_pos hlt]
            go_wp2_with fail
            go_ret
            exact ⟨rfl, hE4.out⟩
          · have hz3 := hide (show z = checkF (fs.drop (i + 1)) by rw [hz2.out, if_neg (by simp), if_neg hlt])
            go_wp2_with fail
            go_roundw
            case rel => exact ⟨i + 1, by go_num, by omega, hz3, hE4⟩
            case measure => simp [intOf]; omega
      · have hz0 := hz.out
        rw [List.drop_of_length_le (by rw [← hn.out]; omega)] at hz0
        have hz1 : z = 0 := hz0
        subst hz1
        go_wp2_with fail
        go_ret
        exact ⟨rfl, hE.out⟩
end
section
open Go.RowKit
theorem wpList_appS {P : Program} {ops : Array Oper} {rest : List Oper} {o : Oper} {a : Act} {Q : Exit → Act → World → Prop} {w0 : World} {us : List Value} {T : TypeId} {t e size bytes m : Nat} (E : Elem P t e size bytes)
    {base : Nat} {v : Value} {n : Nat} {xs : List Value} (hown : w0.ownsRow base e size v n xs) (s x : Operand)
    (ho : o.op = .call { callee := .builtin .append, args := #[s, x], argTypes := #[t, t] }) (hgd : o.guard = none)
    (hs : a.eval s = v) (hx : a.eval x = .slice (some ⟨w0.heap.size, 0, none⟩) m m) (hl : us.length = m * size) (h1 : ∀ u ∈ us, u.oneCell' = true) (hsz : n + m ≤ 4294967296) (hbase : base ≤ w0.heap.size)
    (h : ∀ A1 c1 w', w'.ownsRow base e size (.slice A1 (n + m) c1) (n + m) (xs ++ us) → w0.grownBy w' v.ownBlock → ((Value.slice A1 (n + m) c1).ownBlock = v.ownBlock ∨ (Value.slice A1 (n + m) c1).ownBlock = some (w0.heap.size + 1)) →
      wpList P ops Q rest (a.put o.dst (.slice A1 (n + m) c1)) w') :
    wpList P ops Q (o :: rest) a (w0.alloc (.cells us.toArray T)) := by
  refine wpList_app E (((Ext.refl w0).alloc _).owns hown) (A := some ⟨w0.heap.size, 0, none⟩) (news := us) (.inr ⟨w0.heap.size, 0, rfl, fun i u hu => ?_⟩) s x ho hgd hs hx rfl hl h1 hsz (by simp; omega) fun A1 c1 w' h2 h3 h4 => ?_
  · rw [Nat.zero_add, cell_of_row _ _ _ _ _ _ (heap_alloc_new w0 _)]
    simpa using hu
  · refine h A1 c1 w' h2 ⟨h3.os, h3.tape, h3.output, Nat.le_trans (by simp) h3.size, fun k hk hne => (h3.block k (by simp; omega) hne).trans (Below.heap_alloc w0 _ k hk)⟩ ?_
    simpa using h4
end
section
open Go.RowKit
def I64ok' (z : Int) : Prop := -9223372036854775808 ≤ z ∧ z ≤ 9223372036854775807
theorem owns_lower {w : World} {base b : Nat} {e : TypeId} {size : Nat} {v : Value} {n : Nat} {xs : List Value} (h : w.ownsRow base e size v n xs) (hb : b ≤ base) : w.ownsRow b e size v n xs := by
  refine ⟨h.1, ?_⟩
  rcases h.2 with h2 | ⟨g, cap, cur, hv, hg, r⟩
  · exact .inl h2
  · exact .inr ⟨g, cap, cur, hv, Nat.le_trans hb hg, r⟩
def Ev.Own (e : Ev) (w : World) (base : Nat) (A : Option Addr) (c : Nat) : Prop := w.ownsRow base 105 2 (.slice A e.fs.length c) e.fs.length (fcells e.fs) ∧ (∀ f ∈ e.fs, f.1.length ≤ 9223372036854775807 ∧ f.2.length ≤ 9223372036854775807) ∧ e.fs.length ≤ 20
theorem Ev.Own.ok {e : Ev} {w : World} {base c : Nat} {A : Option Addr} (h : e.Own w base A c) : e.Ok w A := ⟨Cells.of_own h.1, by have := h.2.2; omega, h.2.1⟩
theorem Ev.Own.nil (w : World) (base : Nat) (at_ : Int) : Ev.Own ⟨at_, []⟩ w base none 0 := ⟨⟨rfl, .inl ⟨rfl, rfl⟩⟩, nofun, by simp⟩
theorem wpList_appZ {P : Program} {ops : Array Oper} {rest : List Oper} {o : Oper} {a : Act} {Q : Exit → Act → World → Prop} {w0 : World} {us : List Value} {T : TypeId} {t e size bytes m k : Nat} (E : Elem P t e size bytes)
    {base : Nat} {v : Value} {n : Nat} {xs : List Value} (hown : w0.ownsRow base e size v n xs) (hk : k = w0.heap.size) (s x : Operand)
    (ho : o.op = .call { callee := .builtin .append, args := #[s, x], argTypes := #[t, t] }) (hgd : o.guard = none)
    (hs : a.eval s = v) (hx : a.eval x = .slice (some ⟨k, 0, none⟩) m m) (hl : us.length = m * size) (h1 : ∀ u ∈ us, u.oneCell' = true) (hsz : n + m ≤ 4294967296) (hbase : base ≤ w0.heap.size)
    (h : ∀ A1 c1 w', w'.ownsRow base e size (.slice A1 (n + m) c1) (n + m) (xs ++ us) → w0.grownBy w' v.ownBlock → ((Value.slice A1 (n + m) c1).ownBlock = v.ownBlock ∨ (Value.slice A1 (n + m) c1).ownBlock = some (w0.heap.size + 1)) →
      wpList P ops Q rest (a.put o.dst (.slice A1 (n + m) c1)) w') :
    wpList P ops Q (o :: rest) a (w0.alloc (.cells us.toArray T)) := by
  subst hk
  exact wpList_appS E hown s x ho hgd hs hx hl h1 hsz hbase h
set_option maxRecDepth 100000 in
theorem elemFd : Elem Tryz.prog 35 105 2 32 := ⟨Tryz.underlying35, ⟨_, _, rfl, rfl, rfl, rfl, rfl⟩, by omega, by omega⟩
structure EvC where
  e : Ev
  A : Option Addr
  c : Nat
def EvC.val (x : EvC) : Value := x.e.val x.A x.c
def EvC.cells (x : EvC) : List Value := [.int .i64 x.e.at_, .slice x.A x.e.fs.length x.c]
def EvC.Own (x : EvC) (w : World) (base : Nat) : Prop := x.e.Own w base x.A x.c
theorem EvC.Own.ok {x : EvC} {w : World} {base : Nat} (h : x.Own w base) : x.e.Ok w x.A := Ev.Own.ok h
theorem EvC.Own.chg {x : EvC} {w w' : World} {base : Nat} {S : Nat → Prop} (h : x.Own w base) (hc : Chg S w w') (hS : ∀ g cs, Row w g 105 cs → ¬ S g) : x.Own w' base :=
  ⟨hc.owns h.1 fun g hg => by obtain ⟨cs, hr, _⟩ := owns_row h.1 hg; exact hS g cs hr, h.2⟩
end
section
open Go.RowKit
def txL (s : List UInt8) : List UInt8 := vb s.length ++ s
def getT (most : Nat) (l : List UInt8) : Except Nat (List UInt8 × List UInt8) := match getV 0 l with
  | .error k => .error k
  | .ok (n, r) => if most < n then .error 2 else if r.length < n then .error 6 else .ok (r.take n, r.drop n)
theorem getT_put {most : Nat} {s : List UInt8} (h : s.length ≤ most) (h2 : s.length < 18446744073709551616) (r : List UInt8) : getT most (txL s ++ r) = .ok (s, r) := by
  unfold getT txL
  rw [List.append_assoc, getV_put h2]
  simp only
  rw [if_neg (by omega), if_neg (by rw [List.length_append]; omega), List.take_left' rfl, List.drop_left' rfl]
theorem getT_ok {most : Nat} {l s r : List UInt8} (h : getT most l = .ok (s, r)) : s.length ≤ most ∧ r.length + s.length < l.length ∧ ∃ p, l = p ++ r := by
  unfold getT at h
  split at h
  · cases h
  · rename_i n r0 hg
    obtain ⟨_, _, p, rfl, hp⟩ := getV_lt l 0 n r0 hg
    have hp1 : 1 ≤ p.length := List.length_pos_iff.2 hp
    split at h
    · cases h
    · split at h
      · cases h
      · injection h with h
        injection h with h1 h2
        refine ⟨by rw [← h1, List.length_take]; omega, by rw [← h1, ← h2, List.length_take, List.length_drop, List.length_append]; omega, p ++ r0.take n, ?_⟩
        rw [← h2, List.append_assoc, List.take_append_drop]
def putF (f : Fd) : List UInt8 := txL f.1 ++ txL f.2
def putFs (fs : List Fd) : List UInt8 := fs.flatMap putF
def putE (e : Ev) : List UInt8 := vb (zig e.at_) ++ vb e.fs.length ++ putFs e.fs
def sizeF (f : Fd) : Nat := f.1.length + f.2.length
def sizeFs (fs : List Fd) : Nat := (fs.map sizeF).sum
def getFs : Nat → List UInt8 → Option (List Fd × List UInt8)
  | 0, l => some ([], l)
  | k + 1, l => match getT 32 l with
    | .error _ => none
    | .ok (nm, r) => match getT 4096 r with
      | .error _ => none
      | .ok (tx, r2) => match getFs k r2 with
        | none => none
        | some (fs, r3) => some ((nm, tx) :: fs, r3)
def getE (l : List UInt8) : Option (Ev × List UInt8) := match getV 0 l with
  | .error _ => none
  | .ok (u, r) => match getV 0 r with
    | .error _ => none
    | .ok (n, r2) => if 16 < n then none else match getFs n r2 with
      | none => none
      | some (fs, r3) => if checkE fs = 0 then some (⟨unzig u, fs⟩, r3) else none
theorem getFs_put : ∀ (fs : List Fd) (r : List UInt8), (∀ f ∈ fs, f.1.length ≤ 32 ∧ f.2.length ≤ 4096) → getFs fs.length (putFs fs ++ r) = some (fs, r)
  | [], r, _ => rfl
  | f :: fs, r, h => by
    have hf := h f (by simp)
    show getFs (fs.length + 1) _ = _
    unfold getFs
    rw [show putFs (f :: fs) ++ r = txL f.1 ++ (txL f.2 ++ (putFs fs ++ r)) by unfold putFs; rw [List.flatMap_cons]; unfold putF; simp, getT_put hf.1 (by omega)]
    simp only
    rw [getT_put hf.2 (by omega)]
    simp only
    rw [getFs_put fs r fun x hx => h x (by simp [hx])]
theorem checkF_fs : ∀ {fs : List Fd}, checkF fs = 0 → ∀ f ∈ fs, f.1.length ≤ 32 ∧ f.2.length ≤ 4096
  | [], _ => nofun
  | f :: fs, h => by
    unfold checkF at h
    split at h
    · cases h
    · rename_i hn
      split at h
      · cases h
      · intro g hg
        rcases List.mem_cons.1 hg with rfl | hg
        · refine ⟨?_, by omega⟩
          unfold nameL at hn
          simp at hn
          omega
        · exact checkF_fs h g hg
theorem checkE_fs {fs : List Fd} (h : checkE fs = 0) : fs.length ≤ 16 ∧ ∀ f ∈ fs, f.1.length ≤ 32 ∧ f.2.length ≤ 4096 := by
  unfold checkE at h
  split at h
  · cases h
  · exact ⟨by omega, checkF_fs h⟩
theorem getE_put {e : Ev} (ha : I64ok' e.at_) (h : checkE e.fs = 0) (r : List UInt8) : getE (putE e ++ r) = some (e, r) := by
  obtain ⟨h16, hfs⟩ := checkE_fs h
  unfold getE putE
  rw [List.append_assoc, List.append_assoc, getV_put (zig_lt ha.1 ha.2)]
  simp only
  rw [getV_put (by omega)]
  simp only
  rw [if_neg (by omega), getFs_put _ _ hfs]
  simp only
  rw [if_pos h, unzig_zig]
theorem vb_le10 {n : Nat} (h : n < 18446744073709551616) : (vb n).length ≤ 10 := vb_len10 h
theorem txL_len {s : List UInt8} (h : s.length < 18446744073709551616) : (txL s).length ≤ 10 + s.length := by
  unfold txL
  rw [List.length_append]
  have := vb_le10 h
  omega
theorem putFs_len : ∀ {fs : List Fd}, (∀ f ∈ fs, f.1.length ≤ 32 ∧ f.2.length ≤ 4096) → (putFs fs).length ≤ 20 * fs.length + sizeFs fs
  | [], _ => by simp [putFs, sizeFs]
  | f :: fs, h => by
    have h1 := putFs_len (fs := fs) fun x hx => h x (by simp [hx])
    have hf := h f (by simp)
    have h2 := txL_len (s := f.1) (by omega)
    have h3 := txL_len (s := f.2) (by omega)
    have h4 : (putFs (f :: fs)).length = (txL f.1).length + (txL f.2).length + (putFs fs).length := by unfold putFs; rw [List.flatMap_cons, List.length_append]; unfold putF; rw [List.length_append]
    have h5 : sizeFs (f :: fs) = f.1.length + f.2.length + sizeFs fs := by unfold sizeFs; rw [List.map_cons, List.sum_cons]; rfl
    rw [h4, h5, List.length_cons]
    omega
end
section
open Go.RowKit Go.Maps
set_option maxRecDepth 100000 in
theorem clone_any (A : Option Addr) (n c : Nat) (l : List UInt8) (w : World) (hn : n = l.length) (hl : Bs w A l) (hz : A = none → c = 0) (hle : n ≤ 1073741824) :
    Calls Tryz.prog 51 #[.slice A n c] w fun e w' => ∃ A1 c1, e = .returned (.slice A1 n c1) ∧ Buf w' w.heap.size 5 A1 n c1 (l.map B8) ∧ Ext w w' := by
  cases A with
  | none =>
    have h0 : l = [] := by
      rcases hl with h | ⟨_, _, h, _⟩
      · simpa using h
      · cases h
    subst h0
    obtain rfl : c = 0 := hz rfl
    obtain rfl : n = 0 := hn
    have hq := nil_eq w
    go_enter Tryz.func51, Tryz.ntmps51
    go_wp2_with fail
    go_ret
    exact ⟨none, 0, rfl, Buf.nil _ _ _, Ext.refl _⟩
  | some a =>
    have hq := nil_ne a n c w
    have ho := own_empty w 5
    have hE0 : Ext w (w.alloc (.cells #[] 5)) := (Ext.refl w).alloc _
    have hb := hl.ext hE0
    have hln : (l.map B8).length = n * 1 := by rw [List.length_map, hn]; omega
    have hsz : w.heap.size ≤ (w.alloc (.cells #[] 5)).heap.size := hE0.size
    replace hln := hide hln
    replace hn := hide hn
    go_enter Tryz.func51, Tryz.ntmps51
    go_wp2_with (at_builtin; refine wpList_app (m := n) elemB ho hb (.tmp 5) (.tmp 6) rfl rfl rfl rfl rfl hln.out (bytes_one _) (by omega) hsz (fun A1 c1 w3 ho3 hg3 hl3 => ?_))
    go_ret
    refine ⟨A1, c1, rfl, ?_, hE0.grown hg3 (fun k hk => by cases hk; exact Nat.le_refl _)⟩
    have := Buf.of_own ho3
    rw [Nat.zero_add] at this
    exact this
end
end Go.Proofs.YtkdcnhnaiknaaaaGreat
