/- loggiaref31: Unquote. -/
import Derived.Test.YtpajpdkliohepaaDoorLnG
namespace Go.Proofs.YtpajpdkliohepaaDoor
open Go.RowKit

theorem oneL_le (l : List UInt8) : (oneL l).2 ≤ l.length := by
  match l with
  | [] => simp [oneL]
  | c :: r =>
    simp only [oneL]
    split
    · simp
    · match r with
      | [] => simp
      | d :: r2 =>
        simp only
        split
        · simp
        · split
          · simp
          · split
            · simp
            · split
              · match r2 with
                | [] => simp
                | [a] => simp
                | a :: b :: r3 =>
                  simp only
                  split <;> simp
              · simp
set_option maxRecDepth 100000 in
set_option maxHeartbeats 4000000 in
theorem runquote_any (s : List UInt8) (w : World) (hs : s.length ≤ 1000000) : Calls Tryd.prog 17 #[.string ⟨s.toArray⟩] w fun e w' => UnP w s e w' := by
  have hq34 : ∀ t' r, quoteL t' ++ r = 34 :: (t'.flatMap escL ++ 34 :: r) := quote_app
  cases s with
  | nil =>
    have hno : ∀ t' r, ([] : List UInt8) ≠ quoteL t' ++ r := fun t' r he => by rw [hq34] at he; cases he
    go_enter Tryd.func17, Tryd.ntmps17
    go_wp2_with fail
    go_ret3
    exact ⟨[], 0, false, rfl, .inr ⟨rfl, rfl, rfl, hno⟩, Ext.refl _⟩
  | cons x0 s1 =>
    have h0 := fun W => run_strindex (l := x0 :: s1) (i := 0) (b := x0) rfl (z := 0) rfl W
    obtain ⟨S, hS⟩ : ∃ S, S = x0 :: s1 := ⟨_, rfl⟩
    have hSl : S.length = s1.length + 1 := by rw [hS]; rfl
    have hS0 : ¬ S.length = 0 := by omega
    have hSe : ((S.length : Int) == 0) = false := beq_eq_false_iff_ne.2 (by omega)
    rw [← hS] at h0 hs ⊢
    replace hSl := hide hSl
    by_cases hx : x0.toNat = 34
    · obtain rfl : x0 = 34 := UInt8.toNat_inj.1 hx
      rw [show ((34 : UInt8).toNat : Int) = 34 from rfl] at h0
      have hqu := fun t W (h : t.length ≤ 1000000) => rquote_any t W h
      have hon := fun at_ W (h : at_ < S.length) => rone_any S at_ W hs h
      unfold OneP at hon
      replace hqu := hide hqu
      replace hon := hide hon
      replace hS := hide hS
      clear hq34 hx
      go_enter Tryd.func17, Tryd.ntmps17
      go_wp2_with fail
      go_loopw [5, 6] (fun s5 s6 wr => ∃ (t : List UInt8) (m at_ : Nat) (A2 : Option Addr) (c2 : Nat), s5 = .slice A2 m c2 ∧ s6 = .int .i64 (at_ : Int) ∧ at_ ≤ S.length ∧ 1 ≤ at_ ∧ m ≤ at_ ∧ Hid (m = t.length) ∧ Hid (Buf wr w.heap.size 5 A2 m c2 (t.map B8)) ∧ Hid (Fits s1 t (S.drop at_)) ∧ Hid (Ext w wr)) (fun _ s6 _ => S.length - (intOf s6).toNat)
      case atStart => exact ⟨[], 0, 1, none, 0, rfl, rfl, by omega, by omega, by omega, hide rfl, hide (Buf.nil _ _ _), hide (by rw [hS.out]; exact Fits.start s1), hide (Ext.refl _)⟩
      case round =>
        obtain ⟨t, m, at_, A2, c2, rfl, rfl, ha, ha1, hm, hml, hb, hF, hE⟩ := hrel
        have hsz := hE.out.size
        by_cases hin : at_ < S.length
        · obtain ⟨x, r, hxr⟩ : ∃ x r, S.drop at_ = x :: r := by
            cases h : S.drop at_ with
            | nil => rw [List.drop_eq_nil_iff] at h; omega
            | cons c r => exact ⟨c, r, rfl⟩
          obtain ⟨hi, hd⟩ := drop_at hxr
          have hln := drop_len hxr (by simp)
          have hrun := fun W => run_strindex hi (z := (at_ : Int)) rfl W
          by_cases h34 : x.toNat = 34
          · obtain rfl : x = 34 := UInt8.toNat_inj.1 h34
            rw [show ((34 : UInt8).toNat : Int) = 34 from rfl] at hrun
            have hst := fun cc => run_str (hb.out.drew).cells m cc hml.out
            have hq := hide (hqu.out t wr.drew (by rw [← hml.out]; omega))
            have hhd := fun W => run_strheadz (l := S) (k := at_ + 1) (by omega) (z := (at_ : Int) + 1) (by omega) W
            have hF2 := hF.out
            rw [hxr] at hF2
            have huq : (quoteL t = S.take (at_ + 1) → UQ S t (at_ + 1) true) ∧ (quoteL t ≠ S.take (at_ + 1) → ∀ t' r, S ≠ quoteL t' ++ r) := by
              refine ⟨fun h => .inl ⟨rfl, by rw [h, List.length_take]; omega, r, ?_⟩, fun h t' r' he => h ?_⟩
              · rw [h, ← hd]
                exact (List.take_append_drop _ _).symm
              · have he2 := he
                rw [hS.out, quote_app] at he2
                injection he2 with _ he2
                obtain ⟨rfl, rfl⟩ := hF2.done _ _ he2
                have hl2 := congrArg List.length he
                rw [List.length_append] at hl2
                rw [List.length_cons] at hln
                rw [he, List.take_left' (by omega)]
            obtain ⟨u, hu⟩ : ∃ u, u = S.take (at_ + 1) := ⟨_, rfl⟩
            rw [← hu] at hhd huq
            obtain ⟨q, hqd⟩ : ∃ q, q = quoteL t := ⟨_, rfl⟩
            rw [← hqd] at hq huq
            replace huq := hide huq
            replace hqd := hide hqd
            clear hu hxr hd hi hF2 h34 hln
            go_wp2_with fail
            refine wp_region_text follows (by kernel_rfl) (by kernel_rfl) (fun K hK => ?_)
            go_wp2_with fail
            refine hq.out.mono ?_
            rintro e w3 ⟨rfl, hE3⟩
            have hst3 := fun cc => run_str (hb.out.ext ((Ext.refl wr).drew.trans hE3)).cells m cc hml.out
            by_cases hqu2 : q = u
            · have h1 := hide (huq.out.1 hqu2)
              subst hqu2
              go_wp2_with fail
              refine ⟨by kernel_rfl, ?_⟩
              go_wp2_with fail
              go_ret3
              exact ⟨t, at_ + 1, true, rfl, h1.out, hE.out.drew.trans hE3⟩
            · have h1 := hide (huq.out.2 hqu2)
              have hqf : (q == u) = false := beq_eq_false_iff_ne.2 hqu2
              clear hqu2
              go_wp2_with fail
              refine ⟨by kernel_rfl, ?_⟩
              go_wp2_with fail
              go_ret3
              exact ⟨[], 0, false, rfl, .inr ⟨rfl, rfl, rfl, h1.out⟩, hE.out.drew.trans hE3⟩
          · have hx34 : ¬ (x.toNat : Int) = 34 := by omega
            have hne : ∀ r', S.drop at_ ≠ 34 :: r' := fun r' he => h34 (by rw [hxr] at he; injection he with he _; rw [he]; rfl)
            have ho := hide (hon.out at_ wr hin)
            have hle := oneL_le (S.drop at_)
            have hF1 := hF.out.one hne
            have hF0 := hF.out.bad hne
            rw [List.drop_drop] at hF1
            rw [List.length_drop] at hle
            obtain ⟨y, hy⟩ : ∃ y, y = (oneL (S.drop at_)).1 := ⟨_, rfl⟩
            obtain ⟨k, hk⟩ : ∃ k, k = (oneL (S.drop at_)).2 := ⟨_, rfl⟩
            rw [← hy, ← hk] at ho hF1
            rw [← hk] at hle hF0
            have hno : k = 0 → ∀ t' r, S ≠ quoteL t' ++ r := fun h t' r he => by
              rw [hS.out, quote_app] at he
              injection he with _ he
              exact hF0 h _ _ he
            have htm : (t ++ [y]).map B8 = t.map B8 ++ [.int .u8 (y.toNat : Int)] := by rw [List.map_append]; rfl
            have htl : m + 1 = (t ++ [y]).length := by rw [List.length_append, ← hml.out]; rfl
            replace hF1 := hide hF1
            replace hno := hide hno
            replace htm := hide htm
            replace htl := hide htl
            clear hy hk hxr hd hi hF0 h34 hne hln
            go_wp2_with fail
            refine ho.out.mono ?_
            rintro e w3 ⟨rfl, hE3⟩
            have hb3 : Buf w3 w.heap.size 5 A2 m c2 (t.map B8) := hb.out.ext hE3
            have hsz3 : w.heap.size ≤ w3.heap.size := Nat.le_trans hsz hE3.size
            have hE4 := hide (hE.out.trans hE3)
            by_cases hk0 : k = 0
            · have h1 := hide (hno.out hk0)
              subst hk0
              go_wp2_with fail
              go_ret3
              exact ⟨[], 0, false, rfl, .inr ⟨rfl, rfl, rfl, h1.out⟩, hE4.out⟩
            · have hki : ¬ (k : Int) = 0 := by omega
              go_wp2_with (at_builtin; refine wpList_bufK elemB hb3 _ _ rfl rfl rfl rfl (one_of rfl) (by simp; omega) hsz3 (fun A3 c3 w4 hb4 hP4 => ?_))
              have hE5 := hide (hP4.ext hE4.out hb3.base_le)
              trace_state
              go_roundw
              case rel => exact ⟨t ++ [y], m + 1, at_ + k, A3, c3, rfl, by go_num, by omega, by omega, by omega, htl, hide (by rw [htm.out]; exact hb4), hF1, hE5⟩
              case measure => simp [intOf]; omega
        · have hno : ∀ t' r, S ≠ quoteL t' ++ r := fun t' r he => by
            have hF2 := hF.out
            rw [List.drop_of_length_le (by omega)] at hF2
            rw [hS.out, quote_app] at he
            injection he with _ he
            exact hF2.none _ _ he
          replace hno := hide hno
          go_wp2_with fail
          go_ret3
          exact ⟨[], 0, false, rfl, .inr ⟨rfl, rfl, rfl, hno.out⟩, hE.out⟩
    · have hx34 : ¬ (x0.toNat : Int) = 34 := by omega
      have hxn : ((x0.toNat : Int) != 34) = true := bne_iff_ne.2 hx34
      have hno : ∀ t' r, S ≠ quoteL t' ++ r := fun t' r he => by
        rw [hS, hq34] at he
        injection he with he _
        exact hx (by rw [he]; rfl)
      replace hno := hide hno
      replace hS := hide hS
      clear hq34 hx
      go_enter Tryd.func17, Tryd.ntmps17
      go_wp2_with fail
      go_ret3
      exact ⟨[], 0, false, rfl, .inr ⟨rfl, rfl, rfl, hno.out⟩, Ext.refl _⟩
end Go.Proofs.YtpajpdkliohepaaDoor
