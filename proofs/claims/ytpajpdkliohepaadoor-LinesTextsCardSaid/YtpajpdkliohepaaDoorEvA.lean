/- Names: token.IsName, event.Name, loggiaref07.IsName. -/
import Derived.Test.YtpajpdkliohepaaDoorEvP
import Derived.Test.YtpajpdkliohepaaDoorCnv
import Derived.Test.YtpajpdkliohepaaDoorStr
namespace Go.Proofs.YtpajpdkliohepaaDoor
open Go.RowKit

theorem nameL_bad {s : List UInt8} {i : Nat} {x : UInt8} (h : s[i]? = some x) (hx : nameC x = false) : nameL s = false := by
  unfold nameL
  have : s.all nameC = false := by
    rw [List.all_eq_false]
    exact ⟨x, List.mem_of_getElem? h, by rw [hx]; simp⟩
  rw [this]
  rfl
theorem nameC_no {x : UInt8} (h : ¬ (x.toNat = 95 ∨ (48 ≤ x.toNat ∧ x.toNat ≤ 57) ∨ (97 ≤ x.toNat ∧ x.toNat ≤ 122))) : nameC x = false := decide_eq_false h
theorem nameC_yes {x : UInt8} (h : x.toNat = 95 ∨ (48 ≤ x.toNat ∧ x.toNat ≤ 57) ∨ (97 ≤ x.toNat ∧ x.toNat ≤ 122)) : nameC x = true := decide_eq_true h
theorem all_snoc {s : List UInt8} {i : Nat} {x : UInt8} (h : s[i]? = some x) (ha : (s.take i).all nameC = true) (hx : nameC x = true) : (s.take (i + 1)).all nameC = true := by
  obtain ⟨hi, rfl⟩ := List.getElem?_eq_some_iff.1 h
  rw [List.take_succ_eq_append_getElem hi, List.all_append, ha]
  simp [hx]
set_option maxRecDepth 100000 in
set_option maxHeartbeats 2000000 in
theorem isname_any (s : List UInt8) (w : World) (hs : s.length ≤ 9223372036854775807) : Calls Tryd.prog 54 #[.string ⟨s.toArray⟩] w fun e w' => e = .returned (.bool (nameL s)) ∧ Ext w w' := by
  obtain ⟨c1, W1, hcv, hB, hE1, hsz⟩ := run_bytes s w
  obtain ⟨z, hz⟩ : ∃ z, z = nameL s := ⟨_, rfl⟩
  rw [← hz]
  have hbad : ∀ i x, s[i]? = some x → nameC x = false → z = false := fun i x h hx => hz.trans (nameL_bad h hx)
  have hend : s.all nameC = true → z = (decide (1 ≤ s.length) && decide (s.length ≤ 32)) := fun h => by rw [hz]; unfold nameL; rw [h]; simp [Bool.decide_and]
  replace hend := hide hend
  replace hbad := hide hbad
  replace hE1 := hide hE1
  clear hz hsz
  go_enter Tryd.func54, Tryd.ntmps54
  go_wp2_with fail
  go_loopw [8] (fun s8 wr => ∃ i : Nat, s8 = .int .i64 i ∧ i ≤ s.length ∧ Hid ((s.take i).all nameC = true) ∧ wr = W1) (fun s8 _ => s.length - (intOf s8).toNat)
  case atStart => exact ⟨0, rfl, by omega, hide rfl, rfl⟩
  case round =>
    obtain ⟨i, rfl, hi, hall, rfl⟩ := hrel
    by_cases hin : i < s.length
    · obtain ⟨g, o, hg, hc⟩ := hB.at_ (by omega)
      injection hg with hg
      injection hg with hg ho
      subst hg
      subst ho
      have k0 := hc i hin
      rw [Nat.zero_add] at k0
      obtain ⟨x, hx⟩ : ∃ x, x = s[i] := ⟨_, rfl⟩
      have hsx : s[i]? = some x := by rw [hx]; exact List.getElem?_eq_getElem hin
      rw [← hx] at k0
      have hb1 : ¬ (x.toNat = 95 ∨ (48 ≤ x.toNat ∧ x.toNat ≤ 57) ∨ (97 ≤ x.toNat ∧ x.toNat ≤ 122)) → z = false := fun h => hbad.out i x hsx (nameC_no h)
      have hg1 : (x.toNat = 95 ∨ (48 ≤ x.toNat ∧ x.toNat ≤ 57) ∨ (97 ≤ x.toNat ∧ x.toNat ≤ 122)) → (s.take (i + 1)).all nameC = true := fun h => all_snoc hsx hall.out (nameC_yes h)
      replace hb1 := hide hb1
      replace hg1 := hide hg1
      clear hc hx hsx
      go_wp2_with fail
      all_goals first
        | (have q := hg1.out (by first | omega | (simp_all; done) | (simp_all; omega))
           replace q := hide q
           go_roundw
           case rel => exact ⟨i + 1, by go_num, by omega, q, trivial⟩
           case measure => simp [intOf]; omega)
        | (have q := hb1.out (by first | omega | (simp_all; done) | (simp_all; omega))
           go_ret
           exact ⟨ret_bool (by rw [q]), hE1.out⟩)
    · have hz := hend.out (by have h := hall.out; rw [List.take_of_length_le (by omega)] at h; exact h)
      replace hz := hide hz
      go_wp2_with fail
      all_goals go_ret
      all_goals refine ⟨ret_bool ?_, hE1.out⟩
      all_goals rw [hz.out]
      all_goals
        rw [Bool.eq_iff_iff]
        simp
        omega
theorem name_any (s : List UInt8) (w : World) (hs : s.length ≤ 9223372036854775807) : Calls Tryd.prog 40 #[.string ⟨s.toArray⟩] w fun e w' => e = .returned (.bool (nameL s)) ∧ Ext w w' := by
  have h := hide (isname_any s w hs)
  go_enter Tryd.func40, Tryd.ntmps40
  go_wp2_with fail
  refine h.out.mono ?_
  rintro e w1 ⟨rfl, hE⟩
  go_wp2_with fail
  go_ret
  exact ⟨rfl, hE⟩
set_option maxRecDepth 100000 in
set_option maxHeartbeats 2000000 in
theorem risname_any (s : List UInt8) (w : World) (hs : s.length ≤ 9223372036854775807) : Calls Tryd.prog 43 #[.string ⟨s.toArray⟩] w fun e w' => e = .returned (.bool (nameL s)) ∧ w' = w := by
  obtain ⟨z, hz⟩ : ∃ z, z = nameL s := ⟨_, rfl⟩
  rw [← hz]
  have hbad : ∀ i x, s[i]? = some x → nameC x = false → z = false := fun i x h hx => hz.trans (nameL_bad h hx)
  have hend : s.all nameC = true → z = (decide (1 ≤ s.length) && decide (s.length ≤ 32)) := fun h => by rw [hz]; unfold nameL; rw [h]; simp [Bool.decide_and]
  have hlen : ¬ (1 ≤ s.length ∧ s.length ≤ 32) → z = false := fun h => by rw [hz]; unfold nameL; rw [decide_eq_false h]; simp
  replace hend := hide hend
  replace hbad := hide hbad
  replace hlen := hide hlen
  clear hz
  by_cases hl : 1 ≤ s.length ∧ s.length ≤ 32
  · obtain ⟨hl1, hl2⟩ := hl
    go_enter Tryd.func43, Tryd.ntmps43
    go_wp2_with fail
    go_loopw [3] (fun s3 wr => ∃ i : Nat, s3 = .int .i64 i ∧ i ≤ s.length ∧ Hid ((s.take i).all nameC = true) ∧ wr = w) (fun s3 _ => s.length - (intOf s3).toNat)
    case atStart => exact ⟨0, rfl, by omega, hide rfl, rfl⟩
    case round =>
      obtain ⟨i, rfl, hi, hall, rfl⟩ := hrel
      by_cases hin : i < s.length
      · obtain ⟨x, hx⟩ : ∃ x, x = s[i] := ⟨_, rfl⟩
        have hsx : s[i]? = some x := by rw [hx]; exact List.getElem?_eq_getElem hin
        have hrun := fun W => run_strindex hsx (z := (i : Int)) rfl W
        have hb1 : ¬ (x.toNat = 95 ∨ (48 ≤ x.toNat ∧ x.toNat ≤ 57) ∨ (97 ≤ x.toNat ∧ x.toNat ≤ 122)) → z = false := fun h => hbad.out i x hsx (nameC_no h)
        have hg1 : (x.toNat = 95 ∨ (48 ≤ x.toNat ∧ x.toNat ≤ 57) ∨ (97 ≤ x.toNat ∧ x.toNat ≤ 122)) → (s.take (i + 1)).all nameC = true := fun h => all_snoc hsx hall.out (nameC_yes h)
        replace hb1 := hide hb1
        replace hg1 := hide hg1
        clear hx hsx
        go_wp2_with fail
        all_goals first
          | (have q := hg1.out (by first | omega | (simp_all; done) | (simp_all; omega))
             replace q := hide q
             go_roundw
             case rel => exact ⟨i + 1, by go_num, by omega, q, trivial⟩
             case measure => simp [intOf]; omega)
          | (have q := hb1.out (by first | omega | (simp_all; done) | (simp_all; omega))
             go_ret
             exact ⟨ret_bool (by rw [q]), rfl⟩)
      · have hz := hend.out (by have h := hall.out; rw [List.take_of_length_le (by omega)] at h; exact h)
        rw [decide_eq_true hl1, decide_eq_true hl2] at hz
        subst hz
        go_wp2_with fail
        go_ret
        exact ⟨rfl, rfl⟩
  · obtain rfl := hlen.out hl
    go_enter Tryd.func43, Tryd.ntmps43
    go_wp2_with fail
    all_goals first
      | (go_ret; exact ⟨rfl, rfl⟩)
      | (exfalso; simp_all; omega)
end Go.Proofs.YtpajpdkliohepaaDoor
