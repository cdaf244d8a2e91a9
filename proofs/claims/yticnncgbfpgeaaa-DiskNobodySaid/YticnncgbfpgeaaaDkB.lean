/- loggia/disk: may a call be? -/
import Derived.Test.YticnncgbfpgeaaaDkA
namespace Go.Proofs.Yticnncgbfpgeaaa
open Go.RowKit Go.Maps

def str (s : List UInt8) : Value := .string ⟨s.toArray⟩
set_option maxRecDepth 100000 in
theorem may1_any (s : List UInt8) (w : World) (hs : s.length ≤ 9223372036854775807) :
    Calls Try.prog 51 #[str s] w fun e w' => e = .returned (.bool (!namedM s)) ∧ w' = w := by
  unfold str
  have h := named_any s w hs
  obtain ⟨b, hb⟩ : ∃ b, b = namedM s := ⟨_, rfl⟩
  rw [← hb] at h ⊢
  replace hb := hide hb
  replace h := hide h
  go_enter Try.func51, Try.ntmps51
  go_wp2_with fail
  refine h.out.mono ?_
  rintro e w1 ⟨rfl, rfl⟩
  go_wp2_with fail
  go_ret
  exact ⟨rfl, rfl⟩
set_option maxRecDepth 100000 in
set_option maxHeartbeats 1000000 in
theorem indexF_any (A : Option Addr) (n c : Nat) (ns : List (List UInt8)) (w : World) (hn : n = ns.length) (hA : Cells w A (ns.map str)) (hn2 : n ≤ 1000) (hs : ∀ s ∈ ns, s.length ≤ 9223372036854775807) :
    Calls Try.prog 59 #[.slice A n c, .func (.func 51) #[] #[]] w fun e w' => ∃ v : Int, e = .returned (.int .i64 v) ∧ decide (0 ≤ v) = !(ns.all namedM) ∧ w' = w := by
  replace hn := hide hn
  go_enter Try.func59, Try.ntmps59
  go_wp2_with fail
  go_loopw [8] (fun s8 wr => ∃ i : Nat, s8 = .int .i64 i ∧ i ≤ n ∧ Hid (ns.all namedM = (ns.drop i).all namedM) ∧ wr = w) (fun s8 _ => n - (intOf s8).toNat)
  case atStart => exact ⟨0, rfl, by omega, hide rfl, rfl⟩
  case round =>
    obtain ⟨i, rfl, hi, hall, rfl⟩ := hrel
    by_cases hin : i < n
    · have hil : i < ns.length := by rw [← hn.out]; exact hin
      obtain ⟨g, o, rfl, hc⟩ := hA.at_ (by rw [List.length_map]; omega)
      have hci := hc i (str ns[i]) (by simp [hil])
      obtain ⟨x, hx⟩ : ∃ x, x = ns[i] := ⟨_, rfl⟩
      have hxs : x.length ≤ 9223372036854775807 := by rw [hx]; exact hs _ (List.getElem_mem hil)
      have hdr : (ns.drop i).all namedM = (namedM x && (ns.drop (i + 1)).all namedM) := by rw [List.drop_eq_getElem_cons hil, List.all_cons, hx]
      rw [← hx] at hci
      clear hc
      replace hdr := hide hdr
      replace hx := hide hx
      go_wp2_with fail
      refine (may1_any x wr hxs).mono ?_
      rintro e w2 ⟨rfl, rfl⟩
      cases hok : namedM x with
      | true =>
        rw [hok] at hdr
        have hd2 : Hid (ns.all namedM = (ns.drop (i + 1)).all namedM) := by rw [hall.out, hdr.out]; exact Bool.true_and _
        replace hok := hide hok
        clear hdr
        go_wp2_with fail
        go_roundw
        case rel => exact ⟨i + 1, by go_num, by omega, hd2, trivial⟩
        case measure => simp [intOf]; omega
      | false =>
        rw [hok] at hdr
        have hd2 : Hid (ns.all namedM = false) := by rw [hall.out, hdr.out]; exact Bool.false_and _
        replace hok := hide hok
        clear hdr
        go_wp2_with fail
        go_ret
        rw [hd2.out]
        exact ⟨_, rfl, decide_eq_true (by omega), rfl⟩
    · have hd2 : ns.all namedM = true := by
        rw [hall.out, List.drop_eq_nil_of_le (by rw [← hn.out]; omega)]
        rfl
      replace hd2 := hide hd2
      go_wp2_with fail
      go_ret
      rw [hd2.out]
      exact ⟨-1, rfl, rfl, rfl⟩
end Go.Proofs.Yticnncgbfpgeaaa
