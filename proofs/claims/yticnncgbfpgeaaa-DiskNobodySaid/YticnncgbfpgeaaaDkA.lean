/- loggia/disk: names. -/
import Derived.Test.YticnncgbfpgeaaaRange
import Derived.Test.YticnncgbfpgeaaaBuf
import Derived.Test.YticnncgbfpgeaaaShelf
import Derived.Test.YticnncgbfpgeaaaRows
namespace Go.Proofs.Yticnncgbfpgeaaa
open Go.RowKit Go.Maps

theorem follows : Try.prog.follows .mixedOrders = true := by kernel_rfl
set_option maxRecDepth 100000 in
theorem elemB : Elem Try.prog 27 5 1 1 := ⟨Try.underlying27, ⟨_, _, rfl, rfl, rfl, rfl, rfl⟩, by omega, by omega⟩
set_option maxRecDepth 100000 in
theorem elemS : Elem Try.prog 29 9 1 16 := ⟨Try.underlying29, ⟨_, _, rfl, rfl, rfl, rfl, rfl⟩, by omega, by omega⟩
/-- May the letter be in a name? -/
def okb (c : UInt8) : Bool := (97 ≤ c.toNat && c.toNat ≤ 122) || (48 ≤ c.toNat && c.toNat ≤ 57) || c.toNat == 45 || c.toNat == 46
def letters : List UInt8 := [97, 98, 99, 100, 101, 102, 103, 104, 105, 106, 107, 108, 109, 110, 111, 112, 113, 114, 115, 116, 117, 118, 119, 120, 121, 122, 48, 49, 50, 51, 52, 53, 54, 55, 56, 57, 45, 46]
/-- May the name be? -/
def namedM (s : List UInt8) : Bool := 1 ≤ s.length && s.length ≤ 64 && s.all okb
theorem okb_is (c : UInt8) : decide (Lib.indexByte letters c < 0) = !okb c := by
  have h : ∀ n : Fin 256, decide (Lib.indexByte letters (UInt8.ofNat n.val) < 0) = !okb (UInt8.ofNat n.val) := by decide +kernel
  have := h ⟨c.toNat, c.toNat_lt⟩
  simpa using this
theorem letter_any (y : UInt8) (w : World) : Calls Try.prog 60 #[.string ⟨letters.toArray⟩, .int .u8 y.toNat] w fun e w' => ∃ v : Int, e = .returned (.int .i64 v) ∧ decide (v < 0) = !okb y ∧ w' = w := by
  refine (Try.strings_IndexByte ⟨letters.toArray⟩ y.toNat w).mono ?_
  rintro e w' ⟨rfl, rfl⟩
  have hcy : ((y.toNat : Int)).toNat.toUInt8 = y := by simp
  rw [hcy]
  exact ⟨_, rfl, okb_is y, rfl⟩
set_option maxRecDepth 100000 in
set_option maxHeartbeats 1000000 in
theorem named_any (s : List UInt8) (w : World) (hs : s.length ≤ 9223372036854775807) :
    Calls Try.prog 52 #[.string ⟨s.toArray⟩] w fun e w' => e = .returned (.bool (namedM s)) ∧ w' = w := by
  obtain ⟨n, hn⟩ : ∃ n, n = s.length := ⟨_, rfl⟩
  have hsz : (⟨s.toArray⟩ : ByteArray).size = n := by rw [hn]; exact ByteArray.size_mk_toArray s
  by_cases h1 : n < 1
  · have hm : namedM s = false := by unfold namedM; rw [← hn]; simp; omega
    rw [hm]
    replace hn := hide hn
    go_enter Try.func52, Try.ntmps52
    go_wp2_with fail
    go_ret
    exact ⟨rfl, rfl⟩
  · by_cases h2 : 64 < n
    · have hm : namedM s = false := by unfold namedM; rw [← hn]; simp; omega
      rw [hm]
      replace hn := hide hn
      go_enter Try.func52, Try.ntmps52
      go_wp2_with fail
      go_ret
      exact ⟨rfl, rfl⟩
    · have hm : namedM s = s.all okb := by unfold namedM; rw [← hn]; simp; omega
      rw [hm]
      replace hn := hide hn
      go_enter Try.func52, Try.ntmps52
      go_wp2_with fail
      go_loopw [14] (fun s14 wr => ∃ i : Nat, s14 = .int .i64 i ∧ i ≤ n ∧ Hid (s.all okb = (s.drop i).all okb) ∧ wr = w) (fun s14 _ => n - (intOf s14).toNat)
      case atStart => exact ⟨0, rfl, by omega, hide rfl, rfl⟩
      case round =>
        obtain ⟨i, rfl, hi, hall, rfl⟩ := hrel
        by_cases hin : i < n
        · go_wp2_with fail
          have hil : i < s.length := by rw [← hn.out]; exact hin
          obtain ⟨x, hx⟩ : ∃ x, x = s[i] := ⟨_, rfl⟩
          have hdr : (s.drop i).all okb = (okb x && (s.drop (i + 1)).all okb) := by rw [List.drop_eq_getElem_cons hil, List.all_cons, hx]
          generalize hgx : (⟨s.toArray⟩ : ByteArray)[i]'(by rw [hsz]; exact hin) = y
          have hyx : y = x := by rw [hx, ← hgx]; rfl
          subst hyx
          replace hdr := hide hdr
          replace hgx := hide hgx
          replace hx := hide hx
          refine (letter_any y wr).mono ?_
          rintro e w2 ⟨v, rfl, hv, rfl⟩
          cases hok : okb y with
          | true =>
            rw [hok] at hv hdr
            have hv' : decide (v < 0) = false := hv
            have hd2 : Hid (s.all okb = (s.drop (i + 1)).all okb) := by rw [hall.out, hdr.out]; exact Bool.true_and _
            replace hok := hide hok
            clear hv hdr
            go_wp2_with fail
            go_roundw
            case rel => exact ⟨i + 1, by go_num, by omega, hd2, trivial⟩
            case measure => simp [intOf]; omega
          | false =>
            rw [hok] at hv hdr
            have hv' : decide (v < 0) = true := hv
            have hd2 : Hid (s.all okb = false) := by rw [hall.out, hdr.out]; exact Bool.false_and _
            replace hok := hide hok
            clear hv hdr
            go_wp2_with fail
            go_ret
            rw [hd2.out]
            exact ⟨rfl, rfl⟩
        · have hd2 : s.all okb = true := by
            rw [hall.out, List.drop_eq_nil_of_le (by rw [← hn.out]; omega)]
            rfl
          replace hd2 := hide hd2
          go_wp2_with fail
          go_ret
          rw [hd2.out]
          exact ⟨rfl, rfl⟩
end Go.Proofs.Yticnncgbfpgeaaa
