/- loggia/lines: quoted, Unquote. -/
import Derived.Test.YtpajpdkliohepaaDoorLnD
import Derived.Deep.RegionHeld3
namespace Go.Proofs.YtpajpdkliohepaaDoor
open Go.RowKit

/-- What a quoted text that stands first is answered as, and what is left then. -/
def QP (w : World) (b : Nat) (s : List UInt8) (e : Ending) (w' : World) : Prop := ∃ t ok s', e = .returned (.tuple #[.string ⟨t.toArray⟩, .bool ok]) ∧ RdTo w b s' w' ∧ s'.length ≤ s.length ∧ (ok = true ∧ s = quoteL t ++ s' ∨ ok = false ∧ t = [] ∧ ∀ t' r, s ≠ quoteL t' ++ r)
/-- How much is left in a reader. -/
def leftOf (w : World) (b : Nat) : Nat := match w.cell? ⟨b, 0, none⟩ with | some (.string s) => s.size | _ => 0
theorem leftOf_rd {w : World} {b : Nat} {s : List UInt8} (h : Rd w b s) : leftOf w b = s.length := by
  unfold leftOf
  rw [Row.cell h 0 rfl]
  exact ByteArray.size_mk_toArray s
theorem pre34 (s : List UInt8) : Lib.hasPrefix s [34] = true ↔ ∃ r, s = 34 :: r := by
  unfold Lib.hasPrefix
  rw [List.isPrefixOf_iff_prefix]
  constructor
  · rintro ⟨r, rfl⟩; exact ⟨r, rfl⟩
  · rintro ⟨r, rfl⟩; exact ⟨r, rfl⟩
theorem trim34 (r : List UInt8) : Lib.trimPrefix (34 :: r) [34] = r := by
  unfold Lib.trimPrefix
  rw [if_pos ((pre34 _).2 ⟨r, rfl⟩)]
  rfl
theorem trim_no {s p : List UInt8} (h : Lib.hasPrefix s p = false) : Lib.trimPrefix s p = s := by
  unfold Lib.trimPrefix
  rw [h]
  rfl
theorem pre_app {s p : List UInt8} : Lib.hasPrefix s p = true ↔ ∃ r, s = p ++ r := by
  unfold Lib.hasPrefix
  rw [List.isPrefixOf_iff_prefix]
  constructor
  · rintro ⟨r, rfl⟩; exact ⟨r, rfl⟩
  · rintro ⟨r, rfl⟩; exact ⟨r, rfl⟩
set_option maxRecDepth 100000 in
set_option maxHeartbeats 4000000 in
theorem quoted_any (b : Nat) (s : List UInt8) (w : World) (h : Rd w b s) (hs : s.length ≤ 1000000) :
    Calls Tryd.prog 35 #[.pointer (some ⟨b, 0, none⟩)] w fun e w' => QP w b s e w' := by
  have c0 : w.cell? ⟨b, 0, none⟩ = some (.string ⟨s.toArray⟩) := Row.cell h 0 rfl
  have hsk : ∀ W s, Rd W b s → Calls Tryd.prog 48 #[.pointer (some ⟨b, 0, none⟩), .string ⟨#[34]⟩] W fun e w' => e = .returned (.bool (Lib.hasPrefix s [34])) ∧ RdTo W b (Lib.trimPrefix s [34]) w' := fun W s h => lskip_any b s [34] W h
  have hblt := Row.lt h
  have hs0 := hide (hsk w s h)
  cases hp : Lib.hasPrefix s [34] with
  | false =>
    rw [hp, trim_no hp] at hs0
    have hno : ∀ t' r, s ≠ quoteL t' ++ r := fun t' r he => by
      rw [(pre34 s).2 ⟨_, by rw [he, quote_app]⟩] at hp
      cases hp
    replace hno := hide hno
    clear hp hsk h
    go_enter Tryd.func35, Tryd.ntmps35
    go_wp2_with fail
    refine hs0.out.mono ?_
    rintro e w1 ⟨rfl, h1⟩
    go_wp2_with fail
    go_ret2
    exact ⟨[], false, s, rfl, h1, Nat.le_refl _, .inr ⟨rfl, rfl, hno.out⟩⟩
  | true =>
    obtain ⟨s1, rfl⟩ := (pre34 s).1 hp
    rw [hp, trim34] at hs0
    have hby := fun W t (h : Rd W b t) (h1 : t.length ≤ 1000000) (h2 : t ≠ []) => lbyte_any b t W h h1 h2
    have hqu := fun t W (h : t.length ≤ 1000000) => quote_any t W h
    obtain ⟨S, hS⟩ : ∃ S, S = 34 :: s1 := ⟨_, rfl⟩
    have hSl : S.length = s1.length + 1 := by rw [hS]; rfl
    have h1l : s1.length ≤ 999999 := by simp at hs; omega
    rw [← hS] at c0 hs
    rw [← hS]
    replace hS := hide hS
    replace hby := hide hby
    replace hqu := hide hqu
    replace hsk := hide hsk
    clear hp h
    go_enter Tryd.func35, Tryd.ntmps35
    go_wp2_with fail
    refine hs0.out.mono ?_
    rintro e w1 ⟨rfl, h1⟩
    go_wp2_with fail
    have hcw : Chg (fun k => k = b) w w1 := h1.2
    have hsz1 := hcw.size
    have hR1 := h1.1
    have hl1 := leftOf_rd h1.1
    clear h1 c0 hs0
    go_loopw [5] (fun s5 wr => ∃ (t rem : List UInt8) (m : Nat) (A2 : Option Addr) (c2 : Nat), s5 = .slice A2 m c2 ∧ m + rem.length ≤ 999999 ∧ m + rem.length ≤ s1.length ∧ Hid (m = t.length) ∧ Hid (Buf wr w.heap.size 5 A2 m c2 (t.map B8)) ∧ Hid (Fits s1 t rem) ∧ Hid (Rd wr b rem) ∧ Hid (Chg (fun k => k = b) w wr)) (fun _ wr => leftOf wr b)
    case atStart => exact ⟨[], s1, 0, none, 0, rfl, by omega, by omega, hide rfl, hide (Buf.nil _ _ _), hide (Fits.start s1), hide hR1, hide hcw⟩
    case round =>
      obtain ⟨t, rem, m, A2, c2, rfl, hm1, hm2, hml, hb, hF, hR, hC⟩ := hrel
      have k0 : wr.cell? ⟨b, 0, none⟩ = some (.string ⟨rem.toArray⟩) := Row.cell hR.out 0 rfl
      have hszr := hC.out.size
      have hCd : Chg (fun k => k = b) wr wr.drew := Chg.of_ext (Ext.refl wr).drew _
      have hlf := leftOf_rd hR.out
      have hAb : ∀ a, A2 = some a → ¬ a.block = b := fun a ha he => by have := hb.out.base_le a ha; omega
      replace hlf := hide hlf
      replace hAb := hide hAb
      cases rem with
      | nil =>
        have hno : ∀ t' r, S ≠ quoteL t' ++ r := fun t' r he => by
          rw [hS.out, quote_app] at he
          injection he with _ he
          exact hF.out.none _ _ he
        have hs2 := hide (hsk.out wr.drew [] hR.out)
        rw [show Lib.hasPrefix ([] : List UInt8) [34] = false from rfl, trim_no (show Lib.hasPrefix ([] : List UInt8) [34] = false from rfl)] at hs2
        replace hno := hide hno
        go_wp2_with fail
        refine wp_region_held_drew (S := fun x => Chg (fun k => k = b) wr x) (by kernel_rfl) hCd (fun hHeld => ?_)
        refine wpAnyH_take (i := 0) (v := .pointer (some ⟨b, 0, none⟩)) rfl (by kernel_rfl) (by kernel_rfl) (by kernel_rfl) (fun _ _ _ h => h) (Or.inl ⟨by rfl, ?_⟩) (by assumption) ?_
        · intro w' hSw
          (try dsimp only at hSw)
          go_simp
          try with_reducible rfl
        (try simp only [Act.put, List.setIfInBounds_toArray, List.set_cons_zero, List.set_cons_succ, List.getElem_toArray, List.getElem_cons_zero, List.getElem_cons_succ])
        refine wpAnyH_take (i := 1) (v := .pointer (some ⟨b, 0, none⟩)) rfl (by kernel_rfl) (by kernel_rfl) (by kernel_rfl) (fun _ _ _ h => h) (Or.inl ⟨by rfl, ?_⟩) (by assumption) ?_
        · intro w' hSw
          (try dsimp only at hSw)
          go_simp
          try with_reducible rfl
        (try simp only [Act.put, List.setIfInBounds_toArray, List.set_cons_zero, List.set_cons_succ, List.getElem_toArray, List.getElem_cons_zero, List.getElem_cons_succ])
        refine wpAnyH_take (i := 2) (v := .pointer (some ⟨b, 0, none⟩)) rfl (by kernel_rfl) (by kernel_rfl) (by kernel_rfl) (fun _ _ _ h => h) (Or.inl ⟨by rfl, ?_⟩) (by assumption) ?_
        · intro w' hSw
          (try dsimp only at hSw)
          go_simp
          try with_reducible rfl
        (try simp only [Act.put, List.setIfInBounds_toArray, List.set_cons_zero, List.set_cons_succ, List.getElem_toArray, List.getElem_cons_zero, List.getElem_cons_succ])
        refine wpAnyH_ready (rs := [3]) (by kernel_rfl) (by simp) ?_
        refine AllReadyH.cons rfl (fun K hK => ?_) AllReadyH.nil
        (first | go_at_call 48 | (go_simp; go_at_call 48)); (refine (hs2.out).mono ?_; rintro e w3 ⟨rfl, h3⟩)
        refine hK.out _ _ ?_ (fun hHeld1 => ?_)
        · exact (hCd.trans h3.2 fun _ _ h => h)
        clear hK K
        (try simp only [Act.put, List.setIfInBounds_toArray, List.set_cons_zero, List.set_cons_succ, List.getElem_toArray, List.getElem_cons_zero, List.getElem_cons_succ])
        refine wpAnyH_take (i := 4) (v := .bool true) rfl (by kernel_rfl) (by kernel_rfl) (by kernel_rfl) (fun _ _ _ h => h) (Or.inl ⟨by rfl, ?_⟩) (by assumption) ?_
        · intro w' hSw
          (try dsimp only at hSw)
          go_simp
          try with_reducible rfl
        (try simp only [Act.put, List.setIfInBounds_toArray, List.set_cons_zero, List.set_cons_succ, List.getElem_toArray, List.getElem_cons_zero, List.getElem_cons_succ])
        refine wpAnyH_take (i := 5) (v := .bool true) rfl (by kernel_rfl) (by kernel_rfl) (by kernel_rfl) (fun _ _ _ h => h) (Or.inl ⟨by rfl, ?_⟩) (by assumption) ?_
        · intro w' hSw
          (try dsimp only at hSw)
          go_simp
          try with_reducible rfl
        (try simp only [Act.put, List.setIfInBounds_toArray, List.set_cons_zero, List.set_cons_succ, List.getElem_toArray, List.getElem_cons_zero, List.getElem_cons_succ])
        refine wpAnyH_take (i := 6) (v := undef) rfl (by kernel_rfl) (by kernel_rfl) (by kernel_rfl) (fun _ _ _ h => h) (Or.inr ⟨by rfl, rfl⟩) (by assumption) ?_
        (try simp only [Act.put, List.setIfInBounds_toArray, List.set_cons_zero, List.set_cons_succ, List.getElem_toArray, List.getElem_cons_zero, List.getElem_cons_succ])
        refine wpAnyH_take (i := 7) (v := undef) rfl (by kernel_rfl) (by kernel_rfl) (by kernel_rfl) (fun _ _ _ h => h) (Or.inr ⟨by rfl, rfl⟩) (by assumption) ?_
        (try simp only [Act.put, List.setIfInBounds_toArray, List.set_cons_zero, List.set_cons_succ, List.getElem_toArray, List.getElem_cons_zero, List.getElem_cons_succ])
        refine wpAnyH_take (i := 8) (v := undef) rfl (by kernel_rfl) (by kernel_rfl) (by kernel_rfl) (fun _ _ _ h => h) (Or.inr ⟨by rfl, rfl⟩) (by assumption) ?_
        (try simp only [Act.put, List.setIfInBounds_toArray, List.set_cons_zero, List.set_cons_succ, List.getElem_toArray, List.getElem_cons_zero, List.getElem_cons_succ])
        refine wpAnyH_take (i := 9) (v := undef) rfl (by kernel_rfl) (by kernel_rfl) (by kernel_rfl) (fun _ _ _ h => h) (Or.inr ⟨by rfl, rfl⟩) (by assumption) ?_
        (try simp only [Act.put, List.setIfInBounds_toArray, List.set_cons_zero, List.set_cons_succ, List.getElem_toArray, List.getElem_cons_zero, List.getElem_cons_succ])
        refine wpAnyH_take (i := 10) (v := undef) rfl (by kernel_rfl) (by kernel_rfl) (by kernel_rfl) (fun _ _ _ h => h) (Or.inr ⟨by rfl, rfl⟩) (by assumption) ?_
        (try simp only [Act.put, List.setIfInBounds_toArray, List.set_cons_zero, List.set_cons_succ, List.getElem_toArray, List.getElem_cons_zero, List.getElem_cons_succ])
        refine wpAnyH_take (i := 11) (v := undef) rfl (by kernel_rfl) (by kernel_rfl) (by kernel_rfl) (fun _ _ _ h => h) (Or.inr ⟨by rfl, rfl⟩) (by assumption) ?_
        (try simp only [Act.put, List.setIfInBounds_toArray, List.set_cons_zero, List.set_cons_succ, List.getElem_toArray, List.getElem_cons_zero, List.getElem_cons_succ])
        refine wpAnyH_take (i := 12) (v := .bool true) rfl (by kernel_rfl) (by kernel_rfl) (by kernel_rfl) (fun _ _ _ h => h) (Or.inl ⟨by rfl, ?_⟩) (by assumption) ?_
        · intro w' hSw
          (try dsimp only at hSw)
          go_simp
          try with_reducible rfl
        (try simp only [Act.put, List.setIfInBounds_toArray, List.set_cons_zero, List.set_cons_succ, List.getElem_toArray, List.getElem_cons_zero, List.getElem_cons_succ])
        refine wpAnyH_take (i := 13) (v := .bool true) rfl (by kernel_rfl) (by kernel_rfl) (by kernel_rfl) (fun _ _ _ h => h) (Or.inl ⟨by rfl, ?_⟩) (by assumption) ?_
        · intro w' hSw
          (try dsimp only at hSw)
          go_simp
          try with_reducible rfl
        (try simp only [Act.put, List.setIfInBounds_toArray, List.set_cons_zero, List.set_cons_succ, List.getElem_toArray, List.getElem_cons_zero, List.getElem_cons_succ])
        refine wpAnyH_take (i := 14) (v := undef) rfl (by kernel_rfl) (by kernel_rfl) (by kernel_rfl) (fun _ _ _ h => h) (Or.inr ⟨by rfl, rfl⟩) (by assumption) ?_
        (try simp only [Act.put, List.setIfInBounds_toArray, List.set_cons_zero, List.set_cons_succ, List.getElem_toArray, List.getElem_cons_zero, List.getElem_cons_succ])
        refine wpAnyH_take (i := 15) (v := undef) rfl (by kernel_rfl) (by kernel_rfl) (by kernel_rfl) (fun _ _ _ h => h) (Or.inr ⟨by rfl, rfl⟩) (by assumption) ?_
        (try simp only [Act.put, List.setIfInBounds_toArray, List.set_cons_zero, List.set_cons_succ, List.getElem_toArray, List.getElem_cons_zero, List.getElem_cons_succ])
        refine wpAnyH_take (i := 16) (v := undef) rfl (by kernel_rfl) (by kernel_rfl) (by kernel_rfl) (fun _ _ _ h => h) (Or.inr ⟨by rfl, rfl⟩) (by assumption) ?_
        (try simp only [Act.put, List.setIfInBounds_toArray, List.set_cons_zero, List.set_cons_succ, List.getElem_toArray, List.getElem_cons_zero, List.getElem_cons_succ])
        refine wpAnyH_take (i := 17) (v := undef) rfl (by kernel_rfl) (by kernel_rfl) (by kernel_rfl) (fun _ _ _ h => h) (Or.inr ⟨by rfl, rfl⟩) (by assumption) ?_
        (try simp only [Act.put, List.setIfInBounds_toArray, List.set_cons_zero, List.set_cons_succ, List.getElem_toArray, List.getElem_cons_zero, List.getElem_cons_succ])
        refine wpAnyH_take (i := 18) (v := undef) rfl (by kernel_rfl) (by kernel_rfl) (by kernel_rfl) (fun _ _ _ h => h) (Or.inr ⟨by rfl, rfl⟩) (by assumption) ?_
        (try simp only [Act.put, List.setIfInBounds_toArray, List.set_cons_zero, List.set_cons_succ, List.getElem_toArray, List.getElem_cons_zero, List.getElem_cons_succ])
        refine wpAnyH_take (i := 19) (v := undef) rfl (by kernel_rfl) (by kernel_rfl) (by kernel_rfl) (fun _ _ _ h => h) (Or.inr ⟨by rfl, rfl⟩) (by assumption) ?_
        (try simp only [Act.put, List.setIfInBounds_toArray, List.set_cons_zero, List.set_cons_succ, List.getElem_toArray, List.getElem_cons_zero, List.getElem_cons_succ])
        refine wpAnyH_take (i := 20) (v := undef) rfl (by kernel_rfl) (by kernel_rfl) (by kernel_rfl) (fun _ _ _ h => h) (Or.inr ⟨by rfl, rfl⟩) (by assumption) ?_
        (try simp only [Act.put, List.setIfInBounds_toArray, List.set_cons_zero, List.set_cons_succ, List.getElem_toArray, List.getElem_cons_zero, List.getElem_cons_succ])
        refine wpAnyH_take (i := 21) (v := undef) rfl (by kernel_rfl) (by kernel_rfl) (by kernel_rfl) (fun _ _ _ h => h) (Or.inr ⟨by rfl, rfl⟩) (by assumption) ?_
        (try simp only [Act.put, List.setIfInBounds_toArray, List.set_cons_zero, List.set_cons_succ, List.getElem_toArray, List.getElem_cons_zero, List.getElem_cons_succ])
        refine wpAnyH_take (i := 22) (v := undef) rfl (by kernel_rfl) (by kernel_rfl) (by kernel_rfl) (fun _ _ _ h => h) (Or.inr ⟨by rfl, rfl⟩) (by assumption) ?_
        (try simp only [Act.put, List.setIfInBounds_toArray, List.set_cons_zero, List.set_cons_succ, List.getElem_toArray, List.getElem_cons_zero, List.getElem_cons_succ])
        refine wpAnyH_take (i := 23) (v := undef) rfl (by kernel_rfl) (by kernel_rfl) (by kernel_rfl) (fun _ _ _ h => h) (Or.inr ⟨by rfl, rfl⟩) (by assumption) ?_
        (try simp only [Act.put, List.setIfInBounds_toArray, List.set_cons_zero, List.set_cons_succ, List.getElem_toArray, List.getElem_cons_zero, List.getElem_cons_succ])
        refine wpAnyH_take (i := 24) (v := undef) rfl (by kernel_rfl) (by kernel_rfl) (by kernel_rfl) (fun _ _ _ h => h) (Or.inr ⟨by rfl, rfl⟩) (by assumption) ?_
        (try simp only [Act.put, List.setIfInBounds_toArray, List.set_cons_zero, List.set_cons_succ, List.getElem_toArray, List.getElem_cons_zero, List.getElem_cons_succ])
        refine wpAnyH_take (i := 25) (v := undef) rfl (by kernel_rfl) (by kernel_rfl) (by kernel_rfl) (fun _ _ _ h => h) (Or.inr ⟨by rfl, rfl⟩) (by assumption) ?_
        (try simp only [Act.put, List.setIfInBounds_toArray, List.set_cons_zero, List.set_cons_succ, List.getElem_toArray, List.getElem_cons_zero, List.getElem_cons_succ])
        refine wpAnyH_take (i := 26) (v := undef) rfl (by kernel_rfl) (by kernel_rfl) (by kernel_rfl) (fun _ _ _ h => h) (Or.inr ⟨by rfl, rfl⟩) (by assumption) ?_
        (try simp only [Act.put, List.setIfInBounds_toArray, List.set_cons_zero, List.set_cons_succ, List.getElem_toArray, List.getElem_cons_zero, List.getElem_cons_succ])
        refine wpAnyH_take (i := 27) (v := undef) rfl (by kernel_rfl) (by kernel_rfl) (by kernel_rfl) (fun _ _ _ h => h) (Or.inr ⟨by rfl, rfl⟩) (by assumption) ?_
        (try simp only [Act.put, List.setIfInBounds_toArray, List.set_cons_zero, List.set_cons_succ, List.getElem_toArray, List.getElem_cons_zero, List.getElem_cons_succ])
        refine wpAnyH_take (i := 28) (v := .bool true) rfl (by kernel_rfl) (by kernel_rfl) (by kernel_rfl) (fun _ _ _ h => h) (Or.inl ⟨by rfl, ?_⟩) (by assumption) ?_
        · intro w' hSw
          (try dsimp only at hSw)
          go_simp
          try with_reducible rfl
        (try simp only [Act.put, List.setIfInBounds_toArray, List.set_cons_zero, List.set_cons_succ, List.getElem_toArray, List.getElem_cons_zero, List.getElem_cons_succ])
        refine wpAnyH_done (by kernel_rfl) ?_ _
        have fin : RdTo w b [] w3 := ⟨h3.1, hC.out.trans (hCd.trans h3.2 fun _ _ h => h) fun _ _ h => h⟩
        replace fin := hide fin
        clear h3
        go_wp2_with fail
        go_ret2
        exact ⟨[], false, [], rfl, fin.out, by simp, .inr ⟨rfl, rfl, hno.out⟩⟩
      | cons x r =>
        have hrun := fun W => run_strindex (l := x :: r) (i := 0) (b := x) rfl (z := 0) rfl W
        obtain ⟨q, hq⟩ : ∃ q, q = x :: r := ⟨_, rfl⟩
        have hql : q.length = r.length + 1 := by rw [hq]; rfl
        have hq0 : 0 < q.length := by omega
        have hemp : q.isEmpty = false := by rw [hq]; rfl
        have hqn : q ≠ [] := by rw [hq]; simp
        rw [← hq] at k0 hrun hm1 hm2 hF hR hlf
        by_cases hx : x.toNat = 34
        · obtain rfl : x = 34 := UInt8.toNat_inj.1 hx
          have hs2 := hide (hsk.out wr.drew q hR.out)
          rw [hq, (pre34 _).2 ⟨r, rfl⟩, trim34] at hs2
          rw [show ((34 : UInt8).toNat : Int) = 34 from rfl] at hrun
          have hst : ∀ W, Chg (fun k => k = b) wr W → ∀ cc, (convert 55 9 (.slice A2 m cc)).run Tryd.prog W = .ok (.string ⟨t.toArray⟩) W := fun W hW cc => run_str (hW.cells hb.out.cells fun a ha => hAb.out a ha) m cc hml.out
          have hq3 := fun W => hqu.out t W (by rw [← hml.out]; omega)
          have hhp : ∀ W, Calls Tryd.prog 51 #[.string ⟨S.toArray⟩, .string ⟨(quoteL t).toArray⟩] W fun e w' => e = .returned (.bool (Lib.hasPrefix S (quoteL t))) ∧ w' = W := fun W => Tryd.strings_HasPrefix ⟨S.toArray⟩ ⟨(quoteL t).toArray⟩ W
          replace hst := hide hst
          replace hq3 := hide hq3
          replace hq := hide hq
          replace hqn := hide hqn
          clear hx
          cases hpp : Lib.hasPrefix S (quoteL t) with
          | false =>
            have hno : ∀ t' r, S ≠ quoteL t' ++ r := fun t' r' he => by
              have he2 := he
              rw [hS.out, quote_app] at he2
              injection he2 with _ he2
              have hF2 := hF.out
              rw [hq.out] at hF2
              obtain ⟨rfl, rfl⟩ := hF2.done _ _ he2
              rw [pre_app.2 ⟨_, he⟩] at hpp
              cases hpp
            rw [hpp] at hhp
            replace hhp := hide hhp
            replace hno := hide hno
            go_wp2_with fail
            refine wp_region_held_drew (S := fun x => Chg (fun k => k = b) wr x) (by kernel_rfl) hCd (fun hHeld => ?_)
            refine wpAnyH_take (i := 0) (v := .pointer (some ⟨b, 0, none⟩)) rfl (by kernel_rfl) (by kernel_rfl) (by kernel_rfl) (fun _ _ _ h => h) (Or.inl ⟨by rfl, ?_⟩) (by assumption) ?_
            · intro w' hSw
              (try dsimp only at hSw)
              go_simp
              try with_reducible rfl
            (try simp only [Act.put, List.setIfInBounds_toArray, List.set_cons_zero, List.set_cons_succ, List.getElem_toArray, List.getElem_cons_zero, List.getElem_cons_succ])
            refine wpAnyH_take (i := 1) (v := .pointer (some ⟨b, 0, none⟩)) rfl (by kernel_rfl) (by kernel_rfl) (by kernel_rfl) (fun _ _ _ h => h) (Or.inl ⟨by rfl, ?_⟩) (by assumption) ?_
            · intro w' hSw
              (try dsimp only at hSw)
              go_simp
              try with_reducible rfl
            (try simp only [Act.put, List.setIfInBounds_toArray, List.set_cons_zero, List.set_cons_succ, List.getElem_toArray, List.getElem_cons_zero, List.getElem_cons_succ])
            refine wpAnyH_take (i := 2) (v := .pointer (some ⟨b, 0, none⟩)) rfl (by kernel_rfl) (by kernel_rfl) (by kernel_rfl) (fun _ _ _ h => h) (Or.inl ⟨by rfl, ?_⟩) (by assumption) ?_
            · intro w' hSw
              (try dsimp only at hSw)
              go_simp
              try with_reducible rfl
            (try simp only [Act.put, List.setIfInBounds_toArray, List.set_cons_zero, List.set_cons_succ, List.getElem_toArray, List.getElem_cons_zero, List.getElem_cons_succ])
            refine wpAnyH_ready (rs := [3]) (by kernel_rfl) (by simp) ?_
            refine AllReadyH.cons rfl (fun K hK => ?_) AllReadyH.nil
            (first | go_at_call 48 | (go_simp; go_at_call 48)); (refine (hs2.out).mono ?_; rintro e w3 ⟨rfl, h3⟩)
            refine hK.out _ _ ?_ (fun hHeld1 => ?_)
            · exact (hCd.trans h3.2 fun _ _ h => h)
            clear hK K
            (try simp only [Act.put, List.setIfInBounds_toArray, List.set_cons_zero, List.set_cons_succ, List.getElem_toArray, List.getElem_cons_zero, List.getElem_cons_succ])
            refine wpAnyH_take (i := 4) (v := .bool false) rfl (by kernel_rfl) (by kernel_rfl) (by kernel_rfl) (fun _ _ _ h => h) (Or.inl ⟨by rfl, ?_⟩) (by assumption) ?_
            · intro w' hSw
              (try dsimp only at hSw)
              go_simp
              try with_reducible rfl
            (try simp only [Act.put, List.setIfInBounds_toArray, List.set_cons_zero, List.set_cons_succ, List.getElem_toArray, List.getElem_cons_zero, List.getElem_cons_succ])
            refine wpAnyH_take (i := 5) (v := .bool false) rfl (by kernel_rfl) (by kernel_rfl) (by kernel_rfl) (fun _ _ _ h => h) (Or.inl ⟨by rfl, ?_⟩) (by assumption) ?_
            · intro w' hSw
              (try dsimp only at hSw)
              go_simp
              try with_reducible rfl
            (try simp only [Act.put, List.setIfInBounds_toArray, List.set_cons_zero, List.set_cons_succ, List.getElem_toArray, List.getElem_cons_zero, List.getElem_cons_succ])
            refine wpAnyH_take (i := 6) (v := .string ⟨S.toArray⟩) rfl (by kernel_rfl) (by kernel_rfl) (by kernel_rfl) (fun _ _ _ h => h) (Or.inl ⟨by rfl, ?_⟩) (by assumption) ?_
            · intro w' hSw
              (try dsimp only at hSw)
              go_simp
              try with_reducible rfl
            (try simp only [Act.put, List.setIfInBounds_toArray, List.set_cons_zero, List.set_cons_succ, List.getElem_toArray, List.getElem_cons_zero, List.getElem_cons_succ])
            refine wpAnyH_take (i := 7) (v := .slice A2 m c2) rfl (by kernel_rfl) (by kernel_rfl) (by kernel_rfl) (fun _ _ _ h => h) (Or.inl ⟨by rfl, ?_⟩) (by assumption) ?_
            · intro w' hSw
              (try dsimp only at hSw)
              go_simp
              try with_reducible rfl
            (try simp only [Act.put, List.setIfInBounds_toArray, List.set_cons_zero, List.set_cons_succ, List.getElem_toArray, List.getElem_cons_zero, List.getElem_cons_succ])
            refine wpAnyH_take (i := 8) (v := .string ⟨t.toArray⟩) rfl (by kernel_rfl) (by kernel_rfl) (by kernel_rfl) (fun _ _ _ h => h) (Or.inl ⟨by rfl, ?_⟩) (by assumption) ?_
            · intro w' hSw
              (try dsimp only at hSw)
              have hcv := hst.out w' hSw c2
              go_simp
              try with_reducible rfl
            (try simp only [Act.put, List.setIfInBounds_toArray, List.set_cons_zero, List.set_cons_succ, List.getElem_toArray, List.getElem_cons_zero, List.getElem_cons_succ])
            refine wpAnyH_ready (rs := [9]) (by kernel_rfl) (by simp) ?_
            refine AllReadyH.cons rfl (fun K hK => ?_) AllReadyH.nil
            (first | go_at_call 15 | (go_simp; go_at_call 15)); (refine (hq3.out w3).mono ?_; rintro e w4 ⟨rfl, hE4⟩)
            refine hK.out _ _ ?_ (fun hHeld2 => ?_)
            · exact ((hCd.trans h3.2 fun _ _ h => h).trans (Chg.of_ext hE4 (fun k => k = b)) fun _ _ h => h)
            clear hK K
            (try simp only [Act.put, List.setIfInBounds_toArray, List.set_cons_zero, List.set_cons_succ, List.getElem_toArray, List.getElem_cons_zero, List.getElem_cons_succ])
            refine wpAnyH_ready (rs := [10]) (by kernel_rfl) (by simp) ?_
            refine AllReadyH.cons rfl (fun K hK => ?_) AllReadyH.nil
            (first | go_at_call 51 | (go_simp; go_at_call 51)); (refine (hhp.out w4).mono ?_; rintro e w5 ⟨rfl, rfl⟩)
            refine hK.out _ _ ?_ (fun hHeld3 => ?_)
            · exact ‹_›
            clear hK K
            (try simp only [Act.put, List.setIfInBounds_toArray, List.set_cons_zero, List.set_cons_succ, List.getElem_toArray, List.getElem_cons_zero, List.getElem_cons_succ])
            refine wpAnyH_take (i := 11) (v := .bool true) rfl (by kernel_rfl) (by kernel_rfl) (by kernel_rfl) (fun _ _ _ h => h) (Or.inl ⟨by rfl, ?_⟩) (by assumption) ?_
            · intro w' hSw
              (try dsimp only at hSw)
              go_simp
              try with_reducible rfl
            (try simp only [Act.put, List.setIfInBounds_toArray, List.set_cons_zero, List.set_cons_succ, List.getElem_toArray, List.getElem_cons_zero, List.getElem_cons_succ])
            refine wpAnyH_take (i := 12) (v := .bool true) rfl (by kernel_rfl) (by kernel_rfl) (by kernel_rfl) (fun _ _ _ h => h) (Or.inl ⟨by rfl, ?_⟩) (by assumption) ?_
            · intro w' hSw
              (try dsimp only at hSw)
              go_simp
              try with_reducible rfl
            (try simp only [Act.put, List.setIfInBounds_toArray, List.set_cons_zero, List.set_cons_succ, List.getElem_toArray, List.getElem_cons_zero, List.getElem_cons_succ])
            refine wpAnyH_take (i := 13) (v := .bool true) rfl (by kernel_rfl) (by kernel_rfl) (by kernel_rfl) (fun _ _ _ h => h) (Or.inl ⟨by rfl, ?_⟩) (by assumption) ?_
            · intro w' hSw
              (try dsimp only at hSw)
              go_simp
              try with_reducible rfl
            (try simp only [Act.put, List.setIfInBounds_toArray, List.set_cons_zero, List.set_cons_succ, List.getElem_toArray, List.getElem_cons_zero, List.getElem_cons_succ])
            refine wpAnyH_take (i := 14) (v := undef) rfl (by kernel_rfl) (by kernel_rfl) (by kernel_rfl) (fun _ _ _ h => h) (Or.inr ⟨by rfl, rfl⟩) (by assumption) ?_
            (try simp only [Act.put, List.setIfInBounds_toArray, List.set_cons_zero, List.set_cons_succ, List.getElem_toArray, List.getElem_cons_zero, List.getElem_cons_succ])
            refine wpAnyH_take (i := 15) (v := undef) rfl (by kernel_rfl) (by kernel_rfl) (by kernel_rfl) (fun _ _ _ h => h) (Or.inr ⟨by rfl, rfl⟩) (by assumption) ?_
            (try simp only [Act.put, List.setIfInBounds_toArray, List.set_cons_zero, List.set_cons_succ, List.getElem_toArray, List.getElem_cons_zero, List.getElem_cons_succ])
            refine wpAnyH_take (i := 16) (v := undef) rfl (by kernel_rfl) (by kernel_rfl) (by kernel_rfl) (fun _ _ _ h => h) (Or.inr ⟨by rfl, rfl⟩) (by assumption) ?_
            (try simp only [Act.put, List.setIfInBounds_toArray, List.set_cons_zero, List.set_cons_succ, List.getElem_toArray, List.getElem_cons_zero, List.getElem_cons_succ])
            refine wpAnyH_take (i := 17) (v := undef) rfl (by kernel_rfl) (by kernel_rfl) (by kernel_rfl) (fun _ _ _ h => h) (Or.inr ⟨by rfl, rfl⟩) (by assumption) ?_
            (try simp only [Act.put, List.setIfInBounds_toArray, List.set_cons_zero, List.set_cons_succ, List.getElem_toArray, List.getElem_cons_zero, List.getElem_cons_succ])
            refine wpAnyH_take (i := 18) (v := undef) rfl (by kernel_rfl) (by kernel_rfl) (by kernel_rfl) (fun _ _ _ h => h) (Or.inr ⟨by rfl, rfl⟩) (by assumption) ?_
            (try simp only [Act.put, List.setIfInBounds_toArray, List.set_cons_zero, List.set_cons_succ, List.getElem_toArray, List.getElem_cons_zero, List.getElem_cons_succ])
            refine wpAnyH_take (i := 19) (v := undef) rfl (by kernel_rfl) (by kernel_rfl) (by kernel_rfl) (fun _ _ _ h => h) (Or.inr ⟨by rfl, rfl⟩) (by assumption) ?_
            (try simp only [Act.put, List.setIfInBounds_toArray, List.set_cons_zero, List.set_cons_succ, List.getElem_toArray, List.getElem_cons_zero, List.getElem_cons_succ])
            refine wpAnyH_take (i := 20) (v := undef) rfl (by kernel_rfl) (by kernel_rfl) (by kernel_rfl) (fun _ _ _ h => h) (Or.inr ⟨by rfl, rfl⟩) (by assumption) ?_
            (try simp only [Act.put, List.setIfInBounds_toArray, List.set_cons_zero, List.set_cons_succ, List.getElem_toArray, List.getElem_cons_zero, List.getElem_cons_succ])
            refine wpAnyH_take (i := 21) (v := undef) rfl (by kernel_rfl) (by kernel_rfl) (by kernel_rfl) (fun _ _ _ h => h) (Or.inr ⟨by rfl, rfl⟩) (by assumption) ?_
            (try simp only [Act.put, List.setIfInBounds_toArray, List.set_cons_zero, List.set_cons_succ, List.getElem_toArray, List.getElem_cons_zero, List.getElem_cons_succ])
            refine wpAnyH_take (i := 22) (v := undef) rfl (by kernel_rfl) (by kernel_rfl) (by kernel_rfl) (fun _ _ _ h => h) (Or.inr ⟨by rfl, rfl⟩) (by assumption) ?_
            (try simp only [Act.put, List.setIfInBounds_toArray, List.set_cons_zero, List.set_cons_succ, List.getElem_toArray, List.getElem_cons_zero, List.getElem_cons_succ])
            refine wpAnyH_take (i := 23) (v := undef) rfl (by kernel_rfl) (by kernel_rfl) (by kernel_rfl) (fun _ _ _ h => h) (Or.inr ⟨by rfl, rfl⟩) (by assumption) ?_
            (try simp only [Act.put, List.setIfInBounds_toArray, List.set_cons_zero, List.set_cons_succ, List.getElem_toArray, List.getElem_cons_zero, List.getElem_cons_succ])
            refine wpAnyH_take (i := 24) (v := undef) rfl (by kernel_rfl) (by kernel_rfl) (by kernel_rfl) (fun _ _ _ h => h) (Or.inr ⟨by rfl, rfl⟩) (by assumption) ?_
            (try simp only [Act.put, List.setIfInBounds_toArray, List.set_cons_zero, List.set_cons_succ, List.getElem_toArray, List.getElem_cons_zero, List.getElem_cons_succ])
            refine wpAnyH_take (i := 25) (v := undef) rfl (by kernel_rfl) (by kernel_rfl) (by kernel_rfl) (fun _ _ _ h => h) (Or.inr ⟨by rfl, rfl⟩) (by assumption) ?_
            (try simp only [Act.put, List.setIfInBounds_toArray, List.set_cons_zero, List.set_cons_succ, List.getElem_toArray, List.getElem_cons_zero, List.getElem_cons_succ])
            refine wpAnyH_take (i := 26) (v := undef) rfl (by kernel_rfl) (by kernel_rfl) (by kernel_rfl) (fun _ _ _ h => h) (Or.inr ⟨by rfl, rfl⟩) (by assumption) ?_
            (try simp only [Act.put, List.setIfInBounds_toArray, List.set_cons_zero, List.set_cons_succ, List.getElem_toArray, List.getElem_cons_zero, List.getElem_cons_succ])
            refine wpAnyH_take (i := 27) (v := undef) rfl (by kernel_rfl) (by kernel_rfl) (by kernel_rfl) (fun _ _ _ h => h) (Or.inr ⟨by rfl, rfl⟩) (by assumption) ?_
            (try simp only [Act.put, List.setIfInBounds_toArray, List.set_cons_zero, List.set_cons_succ, List.getElem_toArray, List.getElem_cons_zero, List.getElem_cons_succ])
            refine wpAnyH_take (i := 28) (v := .bool true) rfl (by kernel_rfl) (by kernel_rfl) (by kernel_rfl) (fun _ _ _ h => h) (Or.inl ⟨by rfl, ?_⟩) (by assumption) ?_
            · intro w' hSw
              (try dsimp only at hSw)
              go_simp
              try with_reducible rfl
            (try simp only [Act.put, List.setIfInBounds_toArray, List.set_cons_zero, List.set_cons_succ, List.getElem_toArray, List.getElem_cons_zero, List.getElem_cons_succ])
            refine wpAnyH_done (by kernel_rfl) ?_ _
            have fin : RdTo w b r w5 := ⟨Row.ext h3.1 hE4, hC.out.trans ((hCd.trans h3.2 fun _ _ h => h).trans (Chg.of_ext hE4 (fun k => k = b)) fun _ _ h => h) fun _ _ h => h⟩
            replace fin := hide fin
            go_wp2_with fail
            go_ret2
            exact ⟨[], false, r, rfl, fin.out, by omega, .inr ⟨rfl, rfl, hno.out⟩⟩
          | true =>
            obtain ⟨x, hx⟩ := pre_app.1 hpp
            have hxr : S = quoteL t ++ r := by
              have he2 := hx
              rw [hS.out, quote_app] at he2
              injection he2 with _ he2
              have hF2 := hF.out
              rw [hq.out] at hF2
              obtain ⟨_, rfl⟩ := hF2.done _ _ he2
              exact hx
            have hln : S.length = (quoteL t).length + r.length := by rw [hxr, List.length_append]
            replace hxr := hide hxr
            rw [hpp] at hhp
            obtain ⟨Q, hQ⟩ : ∃ Q, Q = quoteL t := ⟨_, rfl⟩
            rw [← hQ] at hln hhp
            have hq4 := hq3.out
            rw [← hQ] at hq4
            replace hq4 := hide hq4
            replace hhp := hide hhp
            replace hQ := hide hQ
            have hst2 := fun W hW => hst.out W hW c2
            clear hx hpp
            have hd : ((S.length : Int) - (r.length : Int)) = (Q.length : Int) := by omega
            have hQl : Q.length ≤ 1000000 := by omega
            have hw : IntKind.i64.wrap (Q.length : Int) = (Q.length : Int) := by
              simp [IntKind.wrap, IntKind.bits, IntKind.signed]
              omega
            replace hln := hide hln
            replace hSl := hide hSl
            go_wp2_with fail
            refine wp_region_held_drew (S := fun x => Chg (fun k => k = b) wr x) (by kernel_rfl) hCd (fun hHeld => ?_)
            refine wpAnyH_take (i := 0) (v := .pointer (some ⟨b, 0, none⟩)) rfl (by kernel_rfl) (by kernel_rfl) (by kernel_rfl) (fun _ _ _ h => h) (Or.inl ⟨by rfl, ?_⟩) (by assumption) ?_
            · intro w' hSw
              (try dsimp only at hSw)
              go_simp
              try with_reducible rfl
            (try simp only [Act.put, List.setIfInBounds_toArray, List.set_cons_zero, List.set_cons_succ, List.getElem_toArray, List.getElem_cons_zero, List.getElem_cons_succ])
            refine wpAnyH_take (i := 1) (v := .pointer (some ⟨b, 0, none⟩)) rfl (by kernel_rfl) (by kernel_rfl) (by kernel_rfl) (fun _ _ _ h => h) (Or.inl ⟨by rfl, ?_⟩) (by assumption) ?_
            · intro w' hSw
              (try dsimp only at hSw)
              go_simp
              try with_reducible rfl
            (try simp only [Act.put, List.setIfInBounds_toArray, List.set_cons_zero, List.set_cons_succ, List.getElem_toArray, List.getElem_cons_zero, List.getElem_cons_succ])
            refine wpAnyH_take (i := 2) (v := .pointer (some ⟨b, 0, none⟩)) rfl (by kernel_rfl) (by kernel_rfl) (by kernel_rfl) (fun _ _ _ h => h) (Or.inl ⟨by rfl, ?_⟩) (by assumption) ?_
            · intro w' hSw
              (try dsimp only at hSw)
              go_simp
              try with_reducible rfl
            (try simp only [Act.put, List.setIfInBounds_toArray, List.set_cons_zero, List.set_cons_succ, List.getElem_toArray, List.getElem_cons_zero, List.getElem_cons_succ])
            refine wpAnyH_ready (rs := [3]) (by kernel_rfl) (by simp) ?_
            refine AllReadyH.cons rfl (fun K hK => ?_) AllReadyH.nil
            (first | go_at_call 48 | (go_simp; go_at_call 48)); (refine (hs2.out).mono ?_; rintro e w3 ⟨rfl, h3⟩)
            refine hK.out _ _ ?_ (fun hHeld1 => ?_)
            · exact (hCd.trans h3.2 fun _ _ h => h)
            clear hK K
            (try simp only [Act.put, List.setIfInBounds_toArray, List.set_cons_zero, List.set_cons_succ, List.getElem_toArray, List.getElem_cons_zero, List.getElem_cons_succ])
            refine wpAnyH_take (i := 4) (v := .bool false) rfl (by kernel_rfl) (by kernel_rfl) (by kernel_rfl) (fun _ _ _ h => h) (Or.inl ⟨by rfl, ?_⟩) (by assumption) ?_
            · intro w' hSw
              (try dsimp only at hSw)
              go_simp
              try with_reducible rfl
            (try simp only [Act.put, List.setIfInBounds_toArray, List.set_cons_zero, List.set_cons_succ, List.getElem_toArray, List.getElem_cons_zero, List.getElem_cons_succ])
            refine wpAnyH_take (i := 5) (v := .bool false) rfl (by kernel_rfl) (by kernel_rfl) (by kernel_rfl) (fun _ _ _ h => h) (Or.inl ⟨by rfl, ?_⟩) (by assumption) ?_
            · intro w' hSw
              (try dsimp only at hSw)
              go_simp
              try with_reducible rfl
            (try simp only [Act.put, List.setIfInBounds_toArray, List.set_cons_zero, List.set_cons_succ, List.getElem_toArray, List.getElem_cons_zero, List.getElem_cons_succ])
            refine wpAnyH_take (i := 6) (v := .string ⟨S.toArray⟩) rfl (by kernel_rfl) (by kernel_rfl) (by kernel_rfl) (fun _ _ _ h => h) (Or.inl ⟨by rfl, ?_⟩) (by assumption) ?_
            · intro w' hSw
              (try dsimp only at hSw)
              go_simp
              try with_reducible rfl
            (try simp only [Act.put, List.setIfInBounds_toArray, List.set_cons_zero, List.set_cons_succ, List.getElem_toArray, List.getElem_cons_zero, List.getElem_cons_succ])
            refine wpAnyH_take (i := 7) (v := .slice A2 m c2) rfl (by kernel_rfl) (by kernel_rfl) (by kernel_rfl) (fun _ _ _ h => h) (Or.inl ⟨by rfl, ?_⟩) (by assumption) ?_
            · intro w' hSw
              (try dsimp only at hSw)
              go_simp
              try with_reducible rfl
            (try simp only [Act.put, List.setIfInBounds_toArray, List.set_cons_zero, List.set_cons_succ, List.getElem_toArray, List.getElem_cons_zero, List.getElem_cons_succ])
            refine wpAnyH_take (i := 8) (v := .string ⟨t.toArray⟩) rfl (by kernel_rfl) (by kernel_rfl) (by kernel_rfl) (fun _ _ _ h => h) (Or.inl ⟨by rfl, ?_⟩) (by assumption) ?_
            · intro w' hSw
              (try dsimp only at hSw)
              have hcv := hst2 w' hSw
              go_simp
              try with_reducible rfl
            (try simp only [Act.put, List.setIfInBounds_toArray, List.set_cons_zero, List.set_cons_succ, List.getElem_toArray, List.getElem_cons_zero, List.getElem_cons_succ])
            refine wpAnyH_ready (rs := [9]) (by kernel_rfl) (by simp) ?_
            refine AllReadyH.cons rfl (fun K hK => ?_) AllReadyH.nil
            (first | go_at_call 15 | (go_simp; go_at_call 15)); (refine (hq4.out w3).mono ?_; rintro e w4 ⟨rfl, hE4⟩)
            refine hK.out _ _ ?_ (fun hHeld2 => ?_)
            · exact ((hCd.trans h3.2 fun _ _ h => h).trans (Chg.of_ext hE4 (fun k => k = b)) fun _ _ h => h)
            clear hK K
            (try simp only [Act.put, List.setIfInBounds_toArray, List.set_cons_zero, List.set_cons_succ, List.getElem_toArray, List.getElem_cons_zero, List.getElem_cons_succ])
            refine wpAnyH_ready (rs := [10]) (by kernel_rfl) (by simp) ?_
            refine AllReadyH.cons rfl (fun K hK => ?_) AllReadyH.nil
            (first | go_at_call 51 | (go_simp; go_at_call 51)); (refine (hhp.out w4).mono ?_; rintro e w5 ⟨rfl, rfl⟩)
            have k5 : w5.cell? ⟨b, 0, none⟩ = some (.string ⟨r.toArray⟩) := Row.cell (Row.ext h3.1 hE4) 0 rfl
            refine hK.out _ _ ?_ (fun hHeld3 => ?_)
            · exact ((hCd.trans h3.2 fun _ _ h => h).trans (Chg.of_ext hE4 (fun k => k = b)) fun _ _ h => h)
            clear hK K
            (try simp only [Act.put, List.setIfInBounds_toArray, List.set_cons_zero, List.set_cons_succ, List.getElem_toArray, List.getElem_cons_zero, List.getElem_cons_succ])
            refine wpAnyH_take (i := 11) (v := .bool false) rfl (by kernel_rfl) (by kernel_rfl) (by kernel_rfl) (fun _ _ _ h => h) (Or.inl ⟨by rfl, ?_⟩) (by assumption) ?_
            · intro w' hSw
              (try dsimp only at hSw)
              go_simp
              try with_reducible rfl
            (try simp only [Act.put, List.setIfInBounds_toArray, List.set_cons_zero, List.set_cons_succ, List.getElem_toArray, List.getElem_cons_zero, List.getElem_cons_succ])
            refine wpAnyH_take (i := 12) (v := .bool false) rfl (by kernel_rfl) (by kernel_rfl) (by kernel_rfl) (fun _ _ _ h => h) (Or.inl ⟨by rfl, ?_⟩) (by assumption) ?_
            · intro w' hSw
              (try dsimp only at hSw)
              go_simp
              try with_reducible rfl
            (try simp only [Act.put, List.setIfInBounds_toArray, List.set_cons_zero, List.set_cons_succ, List.getElem_toArray, List.getElem_cons_zero, List.getElem_cons_succ])
            refine wpAnyH_take (i := 13) (v := .bool false) rfl (by kernel_rfl) (by kernel_rfl) (by kernel_rfl) (fun _ _ _ h => h) (Or.inl ⟨by rfl, ?_⟩) (by assumption) ?_
            · intro w' hSw
              (try dsimp only at hSw)
              go_simp
              try with_reducible rfl
            (try simp only [Act.put, List.setIfInBounds_toArray, List.set_cons_zero, List.set_cons_succ, List.getElem_toArray, List.getElem_cons_zero, List.getElem_cons_succ])
            refine wpAnyH_take (i := 14) (v := .string ⟨S.toArray⟩) rfl (by kernel_rfl) (by kernel_rfl) (by kernel_rfl) (fun _ _ _ h => h) (Or.inl ⟨by rfl, ?_⟩) (by assumption) ?_
            · intro w' hSw
              (try dsimp only at hSw)
              go_simp
              try with_reducible rfl
            (try simp only [Act.put, List.setIfInBounds_toArray, List.set_cons_zero, List.set_cons_succ, List.getElem_toArray, List.getElem_cons_zero, List.getElem_cons_succ])
            refine wpAnyH_take (i := 15) (v := .int .i64 S.length) rfl (by kernel_rfl) (by kernel_rfl) (by kernel_rfl) (fun _ _ _ h => h) (Or.inl ⟨by rfl, ?_⟩) (by assumption) ?_
            · intro w' hSw
              (try dsimp only at hSw)
              go_simp
              try with_reducible rfl
            (try simp only [Act.put, List.setIfInBounds_toArray, List.set_cons_zero, List.set_cons_succ, List.getElem_toArray, List.getElem_cons_zero, List.getElem_cons_succ])
            refine wpAnyH_take (i := 16) (v := .pointer (some ⟨b, 0, none⟩)) rfl (by kernel_rfl) (by kernel_rfl) (by kernel_rfl) (fun _ _ _ h => h) (Or.inl ⟨by rfl, ?_⟩) (by assumption) ?_
            · intro w' hSw
              (try dsimp only at hSw)
              go_simp
              try with_reducible rfl
            (try simp only [Act.put, List.setIfInBounds_toArray, List.set_cons_zero, List.set_cons_succ, List.getElem_toArray, List.getElem_cons_zero, List.getElem_cons_succ])
            refine wpAnyH_take (i := 17) (v := .pointer (some ⟨b, 0, none⟩)) rfl (by kernel_rfl) (by kernel_rfl) (by kernel_rfl) (fun _ _ _ h => h) (Or.inl ⟨by rfl, ?_⟩) (by assumption) ?_
            · intro w' hSw
              (try dsimp only at hSw)
              go_simp
              try with_reducible rfl
            (try simp only [Act.put, List.setIfInBounds_toArray, List.set_cons_zero, List.set_cons_succ, List.getElem_toArray, List.getElem_cons_zero, List.getElem_cons_succ])
            refine wpAnyH_take (i := 18) (v := .pointer (some ⟨b, 0, none⟩)) rfl (by kernel_rfl) (by kernel_rfl) (by kernel_rfl) (fun _ _ _ h => h) (Or.inl ⟨by rfl, ?_⟩) (by assumption) ?_
            · intro w' hSw
              (try dsimp only at hSw)
              go_simp
              try with_reducible rfl
            (try simp only [Act.put, List.setIfInBounds_toArray, List.set_cons_zero, List.set_cons_succ, List.getElem_toArray, List.getElem_cons_zero, List.getElem_cons_succ])
            refine wpAnyH_take (i := 19) (v := .pointer (some ⟨b, 0, none⟩)) rfl (by kernel_rfl) (by kernel_rfl) (by kernel_rfl) (fun _ _ _ h => h) (Or.inl ⟨by rfl, ?_⟩) (by assumption) ?_
            · intro w' hSw
              (try dsimp only at hSw)
              go_simp
              try with_reducible rfl
            (try simp only [Act.put, List.setIfInBounds_toArray, List.set_cons_zero, List.set_cons_succ, List.getElem_toArray, List.getElem_cons_zero, List.getElem_cons_succ])
            refine wpAnyH_take (i := 23) (v := .slice A2 m c2) rfl (by kernel_rfl) (by kernel_rfl) (by kernel_rfl) (fun _ _ _ h => h) (Or.inl ⟨by rfl, ?_⟩) (by assumption) ?_
            · intro w' hSw
              (try dsimp only at hSw)
              go_simp
              try with_reducible rfl
            (try simp only [Act.put, List.setIfInBounds_toArray, List.set_cons_zero, List.set_cons_succ, List.getElem_toArray, List.getElem_cons_zero, List.getElem_cons_succ])
            refine wpAnyH_take (i := 24) (v := .string ⟨t.toArray⟩) rfl (by kernel_rfl) (by kernel_rfl) (by kernel_rfl) (fun _ _ _ h => h) (Or.inl ⟨by rfl, ?_⟩) (by assumption) ?_
            · intro w' hSw
              (try dsimp only at hSw)
              have hcv := hst2 w' hSw
              go_simp
              try with_reducible rfl
            (try simp only [Act.put, List.setIfInBounds_toArray, List.set_cons_zero, List.set_cons_succ, List.getElem_toArray, List.getElem_cons_zero, List.getElem_cons_succ])
            refine wpAnyH_ready (rs := [20, 25]) (by kernel_rfl) (by simp) ?_
            refine AllReadyH.cons rfl (fun K hK => ?_) ?_
            · go_simp
              refine hK.out _ _ ?_ (fun hHeld4 => ?_)
              · exact ((hCd.trans h3.2 fun _ _ h => h).trans (Chg.of_ext hE4 (fun k => k = b)) fun _ _ h => h)
              clear hK K
              (try simp only [Act.put, List.setIfInBounds_toArray, List.set_cons_zero, List.set_cons_succ, List.getElem_toArray, List.getElem_cons_zero, List.getElem_cons_succ])
              refine wpAnyH_take (i := 21) (v := .int .i64 r.length) rfl (by kernel_rfl) (by kernel_rfl) (by kernel_rfl) (fun _ _ _ h => h) (Or.inl ⟨by rfl, ?_⟩) (by assumption) ?_
              · intro w' hSw
                (try dsimp only at hSw)
                go_simp
                try with_reducible rfl
              (try simp only [Act.put, List.setIfInBounds_toArray, List.set_cons_zero, List.set_cons_succ, List.getElem_toArray, List.getElem_cons_zero, List.getElem_cons_succ])
              refine wpAnyH_take (i := 22) (v := .int .i64 Q.length) rfl (by kernel_rfl) (by kernel_rfl) (by kernel_rfl) (fun _ _ _ h => h) (Or.inl ⟨by rfl, ?_⟩) (by assumption) ?_
              · intro w' hSw
                (try dsimp only at hSw)
                go_simp
                try with_reducible rfl
              (try simp only [Act.put, List.setIfInBounds_toArray, List.set_cons_zero, List.set_cons_succ, List.getElem_toArray, List.getElem_cons_zero, List.getElem_cons_succ])
              refine wpAnyH_ready (rs := [25]) (by kernel_rfl) (by simp) ?_
              refine AllReadyH.cons rfl (fun K hK => ?_) AllReadyH.nil
              (first | go_at_call 15 | (go_simp; go_at_call 15)); (refine (hq4.out _).mono ?_; rintro e w6 ⟨rfl, hE6⟩)
              have k6 := hE6.cell k5
              refine hK.out _ _ ?_ (fun hHeld5 => ?_)
              · exact (((hCd.trans h3.2 fun _ _ h => h).trans (Chg.of_ext hE4 (fun k => k = b)) fun _ _ h => h).trans (Chg.of_ext hE6 (fun k => k = b)) fun _ _ h => h)
              clear hK K
              (try simp only [Act.put, List.setIfInBounds_toArray, List.set_cons_zero, List.set_cons_succ, List.getElem_toArray, List.getElem_cons_zero, List.getElem_cons_succ])
              refine wpAnyH_take (i := 26) (v := .int .i64 Q.length) rfl (by kernel_rfl) (by kernel_rfl) (by kernel_rfl) (fun _ _ _ h => h) (Or.inl ⟨by rfl, ?_⟩) (by assumption) ?_
              · intro w' hSw
                (try dsimp only at hSw)
                go_simp
                try with_reducible rfl
              (try simp only [Act.put, List.setIfInBounds_toArray, List.set_cons_zero, List.set_cons_succ, List.getElem_toArray, List.getElem_cons_zero, List.getElem_cons_succ])
              refine wpAnyH_take (i := 27) (v := .bool false) rfl (by kernel_rfl) (by kernel_rfl) (by kernel_rfl) (fun _ _ _ h => h) (Or.inl ⟨by rfl, ?_⟩) (by assumption) ?_
              · intro w' hSw
                (try dsimp only at hSw)
                go_simp
                try with_reducible rfl
              (try simp only [Act.put, List.setIfInBounds_toArray, List.set_cons_zero, List.set_cons_succ, List.getElem_toArray, List.getElem_cons_zero, List.getElem_cons_succ])
              refine wpAnyH_take (i := 28) (v := .bool false) rfl (by kernel_rfl) (by kernel_rfl) (by kernel_rfl) (fun _ _ _ h => h) (Or.inl ⟨by rfl, ?_⟩) (by assumption) ?_
              · intro w' hSw
                (try dsimp only at hSw)
                go_simp
                try with_reducible rfl
              (try simp only [Act.put, List.setIfInBounds_toArray, List.set_cons_zero, List.set_cons_succ, List.getElem_toArray, List.getElem_cons_zero, List.getElem_cons_succ])
              refine wpAnyH_done (by kernel_rfl) ?_ _
              have fin : RdTo w b r w6 := ⟨(Row.ext h3.1 hE4).ext hE6, hC.out.trans (((hCd.trans h3.2 fun _ _ h => h).trans (Chg.of_ext hE4 (fun k => k = b)) fun _ _ h => h).trans (Chg.of_ext hE6 (fun k => k = b)) fun _ _ h => h) fun _ _ h => h⟩
              have hst6 := hst2 w6 (((hCd.trans h3.2 fun _ _ h => h).trans (Chg.of_ext hE4 (fun k => k = b)) fun _ _ h => h).trans (Chg.of_ext hE6 (fun k => k = b)) fun _ _ h => h)
              replace fin := hide fin
              go_wp2_with fail
              go_ret2
              exact ⟨t, true, r, rfl, fin.out, by omega, .inl ⟨rfl, hxr.out⟩⟩
            refine AllReadyH.cons rfl (fun K hK => ?_) ?_
            · (first | go_at_call 15 | (go_simp; go_at_call 15)); (refine (hq4.out _).mono ?_; rintro e w6 ⟨rfl, hE6⟩)
              have k6 := hE6.cell k5
              refine hK.out _ _ ?_ (fun hHeld6 => ?_)
              · exact (((hCd.trans h3.2 fun _ _ h => h).trans (Chg.of_ext hE4 (fun k => k = b)) fun _ _ h => h).trans (Chg.of_ext hE6 (fun k => k = b)) fun _ _ h => h)
              clear hK K
              (try simp only [Act.put, List.setIfInBounds_toArray, List.set_cons_zero, List.set_cons_succ, List.getElem_toArray, List.getElem_cons_zero, List.getElem_cons_succ])
              refine wpAnyH_take (i := 26) (v := .int .i64 Q.length) rfl (by kernel_rfl) (by kernel_rfl) (by kernel_rfl) (fun _ _ _ h => h) (Or.inl ⟨by rfl, ?_⟩) (by assumption) ?_
              · intro w' hSw
                (try dsimp only at hSw)
                go_simp
                try with_reducible rfl
              (try simp only [Act.put, List.setIfInBounds_toArray, List.set_cons_zero, List.set_cons_succ, List.getElem_toArray, List.getElem_cons_zero, List.getElem_cons_succ])
              refine wpAnyH_ready (rs := [20]) (by kernel_rfl) (by simp) ?_
              refine AllReadyH.cons rfl (fun K hK => ?_) AllReadyH.nil
              go_simp
              refine hK.out _ _ ?_ (fun hHeld7 => ?_)
              · exact (((hCd.trans h3.2 fun _ _ h => h).trans (Chg.of_ext hE4 (fun k => k = b)) fun _ _ h => h).trans (Chg.of_ext hE6 (fun k => k = b)) fun _ _ h => h)
              clear hK K
              (try simp only [Act.put, List.setIfInBounds_toArray, List.set_cons_zero, List.set_cons_succ, List.getElem_toArray, List.getElem_cons_zero, List.getElem_cons_succ])
              refine wpAnyH_take (i := 21) (v := .int .i64 r.length) rfl (by kernel_rfl) (by kernel_rfl) (by kernel_rfl) (fun _ _ _ h => h) (Or.inl ⟨by rfl, ?_⟩) (by assumption) ?_
              · intro w' hSw
                (try dsimp only at hSw)
                go_simp
                try with_reducible rfl
              (try simp only [Act.put, List.setIfInBounds_toArray, List.set_cons_zero, List.set_cons_succ, List.getElem_toArray, List.getElem_cons_zero, List.getElem_cons_succ])
              refine wpAnyH_take (i := 22) (v := .int .i64 Q.length) rfl (by kernel_rfl) (by kernel_rfl) (by kernel_rfl) (fun _ _ _ h => h) (Or.inl ⟨by rfl, ?_⟩) (by assumption) ?_
              · intro w' hSw
                (try dsimp only at hSw)
                go_simp
                try with_reducible rfl
              (try simp only [Act.put, List.setIfInBounds_toArray, List.set_cons_zero, List.set_cons_succ, List.getElem_toArray, List.getElem_cons_zero, List.getElem_cons_succ])
              refine wpAnyH_take (i := 27) (v := .bool false) rfl (by kernel_rfl) (by kernel_rfl) (by kernel_rfl) (fun _ _ _ h => h) (Or.inl ⟨by rfl, ?_⟩) (by assumption) ?_
              · intro w' hSw
                (try dsimp only at hSw)
                go_simp
                try with_reducible rfl
              (try simp only [Act.put, List.setIfInBounds_toArray, List.set_cons_zero, List.set_cons_succ, List.getElem_toArray, List.getElem_cons_zero, List.getElem_cons_succ])
              refine wpAnyH_take (i := 28) (v := .bool false) rfl (by kernel_rfl) (by kernel_rfl) (by kernel_rfl) (fun _ _ _ h => h) (Or.inl ⟨by rfl, ?_⟩) (by assumption) ?_
              · intro w' hSw
                (try dsimp only at hSw)
                go_simp
                try with_reducible rfl
              (try simp only [Act.put, List.setIfInBounds_toArray, List.set_cons_zero, List.set_cons_succ, List.getElem_toArray, List.getElem_cons_zero, List.getElem_cons_succ])
              refine wpAnyH_done (by kernel_rfl) ?_ _
              have fin : RdTo w b r w6 := ⟨(Row.ext h3.1 hE4).ext hE6, hC.out.trans (((hCd.trans h3.2 fun _ _ h => h).trans (Chg.of_ext hE4 (fun k => k = b)) fun _ _ h => h).trans (Chg.of_ext hE6 (fun k => k = b)) fun _ _ h => h) fun _ _ h => h⟩
              have hst6 := hst2 w6 (((hCd.trans h3.2 fun _ _ h => h).trans (Chg.of_ext hE4 (fun k => k = b)) fun _ _ h => h).trans (Chg.of_ext hE6 (fun k => k = b)) fun _ _ h => h)
              replace fin := hide fin
              go_wp2_with fail
              go_ret2
              exact ⟨t, true, r, rfl, fin.out, by omega, .inl ⟨rfl, hxr.out⟩⟩
            exact AllReadyH.nil
        · have hb1 := hide (hby.out wr q hR.out (by omega) hqn)
          have hless := byteL_less hqn
          have hF2 := hF.out.step (fun r' he => hx (by rw [hq] at he; injection he with he _; rw [he]; rfl))
          obtain ⟨y, hy⟩ : ∃ y, y = (byteL q).1 := ⟨_, rfl⟩
          obtain ⟨q2, hq2⟩ : ∃ q2, q2 = (byteL q).2 := ⟨_, rfl⟩
          rw [← hy, ← hq2] at hb1 hF2
          rw [← hq2] at hless
          have hx2 : ¬ (x.toNat : Int) = 34 := by omega
          have htm : (t ++ [y]).map B8 = t.map B8 ++ [.int .u8 (y.toNat : Int)] := by rw [List.map_append]; rfl
          have htl : m + 1 = (t ++ [y]).length := by rw [List.length_append, ← hml.out]; rfl
          replace hF2 := hide hF2
          replace htm := hide htm
          replace htl := hide htl
          replace hq := hide hq
          clear hy hq2 hqn
          go_wp2_with fail
          refine hb1.out.mono ?_
          rintro e w3 ⟨rfl, h3⟩
          have hb3 : Buf w3 w.heap.size 5 A2 m c2 (t.map B8) := hb.out.chg h3.2 fun a ha => hAb.out a ha
          have hsz3 : w.heap.size ≤ w3.heap.size := Nat.le_trans hszr h3.2.size
          have hR3 := hide h3.1
          have hC3 := hide (hC.out.trans h3.2 fun _ _ h => h)
          clear h3
          go_wp2_with (at_builtin; refine wpList_bufK elemB hb3 _ _ rfl rfl rfl rfl (one_of rfl) (by simp; omega) hsz3 (fun A3 c3 w4 hb4 hP4 => ?_))
          have hR4 : Rd w4 b q2 := hP4.row hR3.out fun a ha => hAb.out a ha
          have hC4 : Chg (fun k => k = b) w w4 := hC3.out.trans hP4.chg fun i hi ⟨a, ha, hk⟩ => by have := hb.out.base_le a ha; omega
          have hlf4 := leftOf_rd hR4
          have hlf0 := hlf.out
          refine ⟨⟨t ++ [y], q2, m + 1, A3, c3, rfl, by omega, by omega, htl, hide (by rw [htm.out]; exact hb4), hF2, hide hR4, hide hC4⟩, by omega⟩
end Go.Proofs.YtpajpdkliohepaaDoor
