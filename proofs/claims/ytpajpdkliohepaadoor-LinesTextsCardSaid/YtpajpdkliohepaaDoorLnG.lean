/- loggiaref31: one. -/
import Derived.Test.YtpajpdkliohepaaDoorLnF
namespace Go.Proofs.YtpajpdkliohepaaDoor
open Go.RowKit

theorem drop_at {s r : List UInt8} {at_ : Nat} {c : UInt8} (h : s.drop at_ = c :: r) : s[at_]? = some c ∧ s.drop (at_ + 1) = r := by
  constructor
  · have := List.getElem?_drop (xs := s) (i := at_) (j := 0)
    rw [h] at this
    simpa using this.symm
  · rw [← List.drop_drop, h]
    rfl
theorem drop_len {s r : List UInt8} {at_ : Nat} (h : s.drop at_ = r) (hr : r ≠ []) : s.length = at_ + r.length := by
  have := congrArg List.length h
  rw [List.length_drop] at this
  have := List.length_pos_iff.2 hr
  omega
theorem ret_u8i {a b : Int} {v : Value} (h : a = b) : Ending.returned (.tuple #[.int .u8 a, v]) = .returned (.tuple #[.int .u8 b, v]) := by rw [h]
def OneP (s : List UInt8) (w : World) (e : Ending) (w' : World) : Prop := e = .returned (.tuple #[.int .u8 ((oneL s).1.toNat : Int), .int .i64 (((oneL s).2 : Nat) : Int)]) ∧ Ext w w'
theorem oneL_o {c : UInt8} (r : List UInt8) (h : c.toNat ≠ 92) : oneL (c :: r) = (c, 1) := by simp only [oneL]; rw [if_pos h]
theorem oneL_d {d : UInt8} (r2 : List UInt8) : oneL (92 :: d :: r2) = if d.toNat = 34 ∨ d.toNat = 92 then (d, 2) else if d.toNat = 110 then (10, 2) else if d.toNat = 116 then (9, 2) else if d.toNat = 120 then
        (match r2 with
        | a :: b :: _ => if isHex a = true ∧ isHex b = true then (UInt8.ofNat (16 * hexV a + hexV b), 4) else (0, 0)
        | _ => (0, 0)) else (0, 0) := by
  simp only [oneL]
  rw [if_neg (show ¬ ((92 : UInt8).toNat ≠ 92) by decide)]
  rfl
set_option maxRecDepth 100000 in
set_option maxHeartbeats 4000000 in
theorem rone_any (s : List UInt8) (at_ : Nat) (w : World) (hs : s.length ≤ 1000000) (ha : at_ < s.length) : Calls Tryd.prog 36 #[.string ⟨s.toArray⟩, .int .i64 (at_ : Int)] w fun e w' => OneP (s.drop at_) w e w' := by
  have hdg := rdigit_any
  obtain ⟨c, r, hcr⟩ : ∃ c r, s.drop at_ = c :: r := by
    cases h : s.drop at_ with
    | nil => rw [List.drop_eq_nil_iff] at h; omega
    | cons c r => exact ⟨c, r, rfl⟩
  obtain ⟨hi0, hd1⟩ := drop_at hcr
  have h0 := fun W => run_strindex hi0 (z := (at_ : Int)) rfl W
  have hln := drop_len hcr (by simp)
  rw [hcr]
  unfold OneP
  replace hdg := hide hdg
  by_cases h92 : c.toNat = 92
  · obtain rfl : c = 92 := UInt8.toNat_inj.1 h92
    rw [show ((92 : UInt8).toNat : Int) = 92 from rfl] at h0
    cases r with
    | nil =>
      rw [show oneL [92] = (0, 0) from rfl]
      have hl1 : s.length = at_ + 1 := hln
      clear hcr hi0 hd1 hln h92
      go_enter Tryd.func36, Tryd.ntmps36
      go_wp2_with fail
      go_ret2
      exact ⟨rfl, Ext.refl _⟩
    | cons d r2 =>
      obtain ⟨hi1, hd2⟩ := drop_at hd1
      have h1 := fun W => run_strindex hi1 (z := (at_ : Int) + 1) (by omega) W
      rw [oneL_d]
      rcases r2 with _ | ⟨a, _ | ⟨b, tl⟩⟩
      · obtain ⟨P, hP⟩ : ∃ P : UInt8 × Nat, P = if d.toNat = 34 ∨ d.toNat = 92 then (d, 2) else if d.toNat = 110 then (10, 2) else if d.toNat = 116 then (9, 2) else if d.toNat = 120 then (0, 0) else (0, 0) := ⟨_, rfl⟩
        rw [← hP]
        replace hP := hide hP
        have hl1 : s.length = at_ + 2 := by rw [hln]; rfl
        clear hcr hi0 hd1 h92 hi1 hln hd2
        go_enter Tryd.func36, Tryd.ntmps36
        go_wp2_with fail
        all_goals first
          | (go_ret2
             have q : d.toNat = 34 ∨ d.toNat = 92 := by first | omega | (simp_all; done) | (simp_all; omega)
             obtain rfl : P = (d, 2) := by rw [hP.out, if_pos q]
             exact ⟨rfl, Ext.refl _⟩)
          | (go_ret2
             have q : (¬ (d.toNat = 34 ∨ d.toNat = 92)) ∧ d.toNat = 110 := by first | omega | (simp_all; done) | (simp_all; omega)
             obtain rfl : P = (10, 2) := by rw [hP.out, if_neg q.1, if_pos q.2]
             exact ⟨rfl, Ext.refl _⟩)
          | (go_ret2
             have q : (¬ (d.toNat = 34 ∨ d.toNat = 92)) ∧ d.toNat ≠ 110 ∧ d.toNat = 116 := by first | omega | (simp_all; done) | (simp_all; omega)
             obtain rfl : P = (9, 2) := by rw [hP.out, if_neg q.1, if_neg q.2.1, if_pos q.2.2]
             exact ⟨rfl, Ext.refl _⟩)
          | (go_ret2
             have q : (¬ (d.toNat = 34 ∨ d.toNat = 92)) ∧ d.toNat ≠ 110 ∧ d.toNat ≠ 116 ∧ d.toNat ≠ 120 := by first | omega | (simp_all; done) | (simp_all; omega)
             obtain rfl : P = (0, 0) := by rw [hP.out, if_neg q.1, if_neg q.2.1, if_neg q.2.2.1, if_neg q.2.2.2]
             exact ⟨rfl, Ext.refl _⟩)
          | (go_ret2
             have q : (¬ (d.toNat = 34 ∨ d.toNat = 92)) ∧ d.toNat ≠ 110 ∧ d.toNat ≠ 116 := by first | omega | (simp_all; done) | (simp_all; omega)
             obtain rfl : P = (0, 0) := by rw [hP.out, if_neg q.1, if_neg q.2.1, if_neg q.2.2]; split <;> rfl
             exact ⟨rfl, Ext.refl _⟩)
          | skip
      · obtain ⟨P, hP⟩ : ∃ P : UInt8 × Nat, P = if d.toNat = 34 ∨ d.toNat = 92 then (d, 2) else if d.toNat = 110 then (10, 2) else if d.toNat = 116 then (9, 2) else if d.toNat = 120 then (0, 0) else (0, 0) := ⟨_, rfl⟩
        rw [← hP]
        replace hP := hide hP
        have hl1 : s.length = at_ + 3 := by rw [hln]; rfl
        clear hcr hi0 hd1 h92 hi1 hln hd2
        go_enter Tryd.func36, Tryd.ntmps36
        go_wp2_with fail
        all_goals first
          | (go_ret2
             have q : d.toNat = 34 ∨ d.toNat = 92 := by first | omega | (simp_all; done) | (simp_all; omega)
             obtain rfl : P = (d, 2) := by rw [hP.out, if_pos q]
             exact ⟨rfl, Ext.refl _⟩)
          | (go_ret2
             have q : (¬ (d.toNat = 34 ∨ d.toNat = 92)) ∧ d.toNat = 110 := by first | omega | (simp_all; done) | (simp_all; omega)
             obtain rfl : P = (10, 2) := by rw [hP.out, if_neg q.1, if_pos q.2]
             exact ⟨rfl, Ext.refl _⟩)
          | (go_ret2
             have q : (¬ (d.toNat = 34 ∨ d.toNat = 92)) ∧ d.toNat ≠ 110 ∧ d.toNat = 116 := by first | omega | (simp_all; done) | (simp_all; omega)
             obtain rfl : P = (9, 2) := by rw [hP.out, if_neg q.1, if_neg q.2.1, if_pos q.2.2]
             exact ⟨rfl, Ext.refl _⟩)
          | (go_ret2
             have q : (¬ (d.toNat = 34 ∨ d.toNat = 92)) ∧ d.toNat ≠ 110 ∧ d.toNat ≠ 116 ∧ d.toNat ≠ 120 := by first | omega | (simp_all; done) | (simp_all; omega)
             obtain rfl : P = (0, 0) := by rw [hP.out, if_neg q.1, if_neg q.2.1, if_neg q.2.2.1, if_neg q.2.2.2]
             exact ⟨rfl, Ext.refl _⟩)
          | (go_ret2
             have q : (¬ (d.toNat = 34 ∨ d.toNat = 92)) ∧ d.toNat ≠ 110 ∧ d.toNat ≠ 116 := by first | omega | (simp_all; done) | (simp_all; omega)
             obtain rfl : P = (0, 0) := by rw [hP.out, if_neg q.1, if_neg q.2.1, if_neg q.2.2]; split <;> rfl
             exact ⟨rfl, Ext.refl _⟩)
          | skip
      · obtain ⟨P, hP⟩ : ∃ P : UInt8 × Nat, P = if d.toNat = 34 ∨ d.toNat = 92 then (d, 2) else if d.toNat = 110 then (10, 2) else if d.toNat = 116 then (9, 2) else if d.toNat = 120 then (if isHex a = true ∧ isHex b = true then (UInt8.ofNat (16 * hexV a + hexV b), 4) else (0, 0)) else (0, 0) := ⟨_, rfl⟩
        rw [← hP]
        replace hP := hide hP
        have hl1 : at_ + 3 < s.length := by rw [hln]; simp
        obtain ⟨hi2, hd3⟩ := drop_at hd2
        obtain ⟨hi3, _⟩ := drop_at hd3
        have h2 := fun W => run_strindex hi2 (z := (at_ : Int) + 2) (by omega) W
        have h3 := fun W => run_strindex hi3 (z := (at_ : Int) + 3) (by omega) W
        clear hi2 hi3 hd3
        clear hcr hi0 hd1 h92 hi1 hln hd2
        go_enter Tryd.func36, Tryd.ntmps36
        go_wp2_with fail
        all_goals first
          | (go_ret2
             have q : d.toNat = 34 ∨ d.toNat = 92 := by first | omega | (simp_all; done) | (simp_all; omega)
             obtain rfl : P = (d, 2) := by rw [hP.out, if_pos q]
             exact ⟨rfl, Ext.refl _⟩)
          | (go_ret2
             have q : (¬ (d.toNat = 34 ∨ d.toNat = 92)) ∧ d.toNat = 110 := by first | omega | (simp_all; done) | (simp_all; omega)
             obtain rfl : P = (10, 2) := by rw [hP.out, if_neg q.1, if_pos q.2]
             exact ⟨rfl, Ext.refl _⟩)
          | (go_ret2
             have q : (¬ (d.toNat = 34 ∨ d.toNat = 92)) ∧ d.toNat ≠ 110 ∧ d.toNat = 116 := by first | omega | (simp_all; done) | (simp_all; omega)
             obtain rfl : P = (9, 2) := by rw [hP.out, if_neg q.1, if_neg q.2.1, if_pos q.2.2]
             exact ⟨rfl, Ext.refl _⟩)
          | (go_ret2
             have q : (¬ (d.toNat = 34 ∨ d.toNat = 92)) ∧ d.toNat ≠ 110 ∧ d.toNat ≠ 116 ∧ d.toNat ≠ 120 := by first | omega | (simp_all; done) | (simp_all; omega)
             obtain rfl : P = (0, 0) := by rw [hP.out, if_neg q.1, if_neg q.2.1, if_neg q.2.2.1, if_neg q.2.2.2]
             exact ⟨rfl, Ext.refl _⟩)
          | (go_ret2
             have q : (¬ (d.toNat = 34 ∨ d.toNat = 92)) ∧ d.toNat ≠ 110 ∧ d.toNat ≠ 116 := by first | omega | (simp_all; done) | (simp_all; omega)
             obtain rfl : P = (0, 0) := by rw [hP.out, if_neg q.1, if_neg q.2.1, if_neg q.2.2]; split <;> rfl
             exact ⟨rfl, Ext.refl _⟩)
          | skip
        have q : (¬ (d.toNat = 34 ∨ d.toNat = 92)) ∧ d.toNat ≠ 110 ∧ d.toNat ≠ 116 ∧ d.toNat = 120 := by first | omega | (simp_all; done) | (simp_all; omega)
        have hP2 : Hid (P = if isHex a = true ∧ isHex b = true then (UInt8.ofNat (16 * hexV a + hexV b), 4) else (0, 0)) := hide (by rw [hP.out, if_neg q.1, if_neg q.2.1, if_neg q.2.2.1, if_pos q.2.2.2])
        clear q hP
        refine (hdg.out a w).mono ?_
        rintro e w1 ⟨za, rfl, rfl, ha1, ha2⟩
        cases hha : isHex a with
        | false =>
          obtain rfl := ha2 hha
          obtain rfl : P = (0, 0) := by rw [hP2.out, hha]; simp
          clear ha1 ha2 hha
          go_wp2_with fail
          go_ret2
          exact ⟨rfl, Ext.refl _⟩
        | true =>
          obtain rfl := ha1 hha
          have hva := hexV_lt a
          clear ha1 ha2
          go_wp2_with fail
          refine (hdg.out b w1).mono ?_
          rintro e w2 ⟨zb, rfl, rfl, hb1, hb2⟩
          cases hhb : isHex b with
          | false =>
            obtain rfl := hb2 hhb
            obtain rfl : P = (0, 0) := by rw [hP2.out, hhb]; simp
            clear hb1 hb2 hhb hha
            go_wp2_with fail
            go_ret2
            exact ⟨rfl, Ext.refl _⟩
          | true =>
            obtain rfl := hb1 hhb
            have hvb := hexV_lt b
            obtain rfl : P = (UInt8.ofNat (16 * hexV a + hexV b), 4) := by rw [hP2.out, hhb, hha]; simp
            have hpa : ∀ W, Calls Tryd.prog 52 #[.int .u8 (a.toNat : Int)] W fun e w' => e = .returned (.int .i64 (hexV a : Int)) ∧ w' = W := fun W => (hdg.out a W).mono fun e w' ⟨z, h1, h2, h3, _⟩ => ⟨by rw [h1, h3 hha], h2⟩
            have hpb : ∀ W, Calls Tryd.prog 52 #[.int .u8 (b.toNat : Int)] W fun e w' => e = .returned (.int .i64 (hexV b : Int)) ∧ w' = W := fun W => (hdg.out b W).mono fun e w' ⟨z, h1, h2, h3, _⟩ => ⟨by rw [h1, h3 hhb], h2⟩
            obtain ⟨va, hva2⟩ : ∃ va, va = hexV a := ⟨_, rfl⟩
            obtain ⟨vb, hvb2⟩ : ∃ vb, vb = hexV b := ⟨_, rfl⟩
            rw [← hva2] at hpa hva ⊢
            rw [← hvb2] at hpb hvb ⊢
            replace hpa := hide hpa
            replace hpb := hide hpb
            clear hb1 hb2 hhb hha hP2
            replace hva2 := hide hva2
            replace hvb2 := hide hvb2
            go_wp2_with fail
            refine wp_region_text follows (by kernel_rfl) (by kernel_rfl) (fun K hK => ?_)
            go_wp2_with fail
            refine (hpa.out _).mono ?_
            rintro e w3 ⟨rfl, rfl⟩
            go_wp2_with fail
            refine (hpb.out _).mono ?_
            rintro e w4 ⟨rfl, rfl⟩
            go_wp2_with fail
            refine ⟨by kernel_rfl, ?_⟩
            go_wp2_with fail
            obtain rfl := hva2.out
            obtain rfl := hvb2.out
            have he : (16 * (hexV a : Int) + (hexV b : Int)) = (16 * (hexV a : Int) + (hexV b : Int)) % 256 := by omega
            go_ret2
            exact ⟨ret_u8i he, (Ext.refl _).drew⟩
  · rw [oneL_o r h92]
    have hc : ¬ (c.toNat : Int) = 92 := by omega
    clear hcr hi0 hd1 hln h92
    go_enter Tryd.func36, Tryd.ntmps36
    go_wp2_with fail
    go_ret2
    exact ⟨rfl, Ext.refl _⟩
end Go.Proofs.YtpajpdkliohepaaDoor
