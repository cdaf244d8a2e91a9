/- loggiaref31: Read. -/
import Derived.Test.YtpajpdkliohepaaDoorLrC
namespace Go.Proofs.YtpajpdkliohepaaDoor
open Go.RowKit

/-- The lines that are left behind place i, where the line that begins at f has not ended yet. -/
def LeftL (text : List UInt8) (f i : Nat) (rest : List (List UInt8)) : Prop := (i ≤ text.length ∧ f ≤ i ∧ 10 ∉ (text.drop f).take (i - f) ∧ rest = linesL (text.drop f)) ∨ (i = text.length + 1 ∧ rest = [])
theorem LeftL.start (text : List UInt8) : LeftL text 0 0 (linesL text) := .inl ⟨by omega, by omega, by simp, rfl⟩
theorem LeftL.go {text : List UInt8} {f i : Nat} {rest : List (List UInt8)} {c : UInt8} (h : LeftL text f i rest) (hi : text[i]? = some c) (hc : c ≠ 10) : LeftL text f (i + 1) rest := by
  have hlt := (List.getElem?_eq_some_iff.1 hi).1
  rcases h with ⟨h1, h2, h3, h4⟩ | ⟨h1, _⟩
  · refine .inl ⟨by omega, by omega, ?_, h4⟩
    rw [show i + 1 - f = (i - f) + 1 by omega, take_one2 (x := c) (by rw [List.getElem?_drop, show f + (i - f) = i by omega]; exact hi)]
    intro hm
    rcases List.mem_append.1 hm with hm | hm
    · exact h3 hm
    · exact hc (List.mem_singleton.1 hm).symm
  · omega
theorem LeftL.end_ {text : List UInt8} {f i : Nat} {rest : List (List UInt8)} (h : LeftL text f i rest) (hi : i ≤ text.length) (hc : ∀ c, text[i]? = some c → c = 10) : f ≤ i ∧ ∃ rest', rest = (text.drop f).take (i - f) :: rest' ∧ LeftL text (i + 1) (i + 1) rest' := by
  rcases h with ⟨h1, h2, h3, h4⟩ | ⟨h1, _⟩
  · refine ⟨h2, ?_⟩
    by_cases hlt : i < text.length
    · have h5 := hc _ (List.getElem?_eq_getElem hlt)
      refine ⟨linesL (text.drop (i + 1)), ?_, .inl ⟨by omega, by omega, by simp, rfl⟩⟩
      have hsp : text.drop f = (text.drop f).take (i - f) ++ 10 :: text.drop (i + 1) := by
        have h6 : (text.drop f).drop (i - f) = 10 :: text.drop (i + 1) := by
          rw [List.drop_drop, show f + (i - f) = i by omega, List.drop_eq_getElem_cons hlt, h5]
        rw [← h6]
        exact (List.take_append_drop _ _).symm
      rw [h4]
      conv => lhs; rw [hsp]
      exact linesL_app h3
    · have hi2 : i = text.length := by omega
      have ht : (text.drop f).take (i - f) = text.drop f := List.take_of_length_le (by rw [List.length_drop]; omega)
      refine ⟨[], ?_, .inr ⟨by omega, rfl⟩⟩
      rw [ht] at h3 ⊢
      rw [h4, linesL_none h3]
  · omega
set_option maxRecDepth 100000 in
set_option maxHeartbeats 4000000 in
theorem rread_any (text : List UInt8) (w : World) (hl : text.length ≤ 1000000) : Calls Tryd.prog 22 #[.string ⟨text.toArray⟩] w fun en w' => ReadP w text en w' := by
  have hb1 : ¬ (1048576 : Int) < text.length := by omega
  go_enter Tryd.func22, Tryd.ntmps22
  go_wp2_with fail
  go_loopw [5, 6, 7, 8] (fun s5 s6 s7 s8 wr => ∃ (i f q k : Nat) (done : List EvC) (A2 : Option Addr) (c2 : Nat) (rest : List (List UInt8)), s5 = .slice A2 k c2 ∧ s6 = .int .i64 (f : Int) ∧ s7 = .int .i64 (q : Int) ∧ s8 = .int .i64 (i : Int) ∧ i ≤ text.length + 1 ∧ f ≤ i ∧ q ≤ i + 1 ∧ k ≤ i ∧ Hid (k = done.length) ∧ Hid (LeftL text f i rest) ∧ Hid (readR 1 (linesL text) = ahead (done.map (·.e)) (readR q rest)) ∧ Hid (wr.ownsRow w.heap.size 24 2 (.slice A2 k c2) k (ecells done)) ∧ Hid (∀ x ∈ done, x.Own wr w.heap.size) ∧ Hid (Ext w wr)) (fun _ _ _ s8 _ => text.length + 1 - (intOf s8).toNat)
  case atStart => exact ⟨0, 0, 1, 0, [], none, 0, linesL text, rfl, rfl, rfl, rfl, by omega, by omega, by omega, by omega, hide rfl, hide (LeftL.start text), hide (ahead_nil _).symm, hide ⟨rfl, .inl ⟨rfl, rfl⟩⟩, hide nofun, hide (Ext.refl w)⟩
  case round =>
    obtain ⟨i, f, q, k, done, A2, c2, rest, rfl, rfl, rfl, rfl, hi, hfi, hqi, hki, hk, hL, hrd, hown, heach, hE⟩ := hrel
    by_cases hin : i ≤ text.length
    · by_cases hgo : ∃ c, text[i]? = some c ∧ c ≠ 10
      · obtain ⟨c, hc, hne⟩ := hgo
        have hL2 := hide (hL.out.go hc hne)
        have hil := (List.getElem?_eq_some_iff.1 hc).1
        have hrun := fun W => run_strindex hc (z := (i : Int)) rfl W
        have hc10 : ¬ (c.toNat : Int) = 10 := fun h => hne (UInt8.toNat_inj.1 (by show c.toNat = 10; omega))
        clear hc
        go_wp2_with fail
        go_roundw
        case rel => exact ⟨i + 1, f, q, k, done, A2, c2, rest, rfl, rfl, rfl, by go_num, by omega, by omega, by omega, by omega, hk, hL2, hrd, hown, heach, hE⟩
        case measure => simp [intOf]; omega
      · have hc10 : ∀ c, text[i]? = some c → c = 10 := fun c hc => Classical.byContradiction fun h => hgo ⟨c, hc, h⟩
        obtain ⟨_, rest', rfl, hL2⟩ := hL.out.end_ hin hc10
        obtain ⟨s, hs⟩ : ∃ s, s = (text.drop f).take (i - f) := ⟨_, rfl⟩
        have hsl : s.length ≤ text.length := by rw [hs, List.length_take, List.length_drop]; omega
        have hsub := fun W => run_strsub text f i hfi hin (z := (f : Int)) (y := (i : Int)) rfl rfl W
        have hr0 := hrd.out
        rw [← hs] at hsub hr0
        replace hL2 := hide hL2
        clear hL hrd
        clear hgo hs
        have hsplit : ¬ i < text.length ∨ i < text.length ∧ (∀ W, (Instr.index 9 (.string ⟨text.toArray⟩) (.int .i64 (i : Int))).run Tryd.prog W = .ok (.int .u8 10) W) := by
          by_cases hlt : i < text.length
          · refine .inr ⟨hlt, fun W => ?_⟩
            have h1 := run_strindex (List.getElem?_eq_getElem hlt) (z := (i : Int)) rfl W
            rw [hc10 _ (List.getElem?_eq_getElem hlt)] at h1
            exact h1
          · exact .inl hlt
        clear hc10
        rcases @skip_cases s with ⟨hsk, rfl⟩ | ⟨c, r, rfl, hcase⟩
        · rw [readR_skip hsk] at hr0
          replace hr0 := hide hr0
          rcases hsplit with hlt | ⟨hlt, hrun⟩
          all_goals
            go_wp2_with fail
            go_roundw
            case rel => exact ⟨i + 1, i + 1, q + 1, k, done, A2, c2, rest', rfl, by go_num, by go_num, by go_num, by omega, by omega, by omega, by omega, hk, hL2, hr0, hown, heach, hE⟩
            case measure => simp [intOf]; omega
        · have hrun0 := fun W => run_strindex (l := c :: r) (i := 0) (b := c) rfl (z := 0) rfl W
          obtain ⟨S, hS⟩ : ∃ S, S = c :: r := ⟨_, rfl⟩
          have hemp : S.isEmpty = false := by rw [hS]; rfl
          rw [← hS] at hrun0 hr0 hsl hcase hsub
          clear hS
          rcases hcase with ⟨hsk, h35⟩ | ⟨hsk, h35⟩
          · obtain rfl : c = 35 := UInt8.toNat_inj.1 h35
            rw [show ((35 : UInt8).toNat : Int) = 35 from rfl] at hrun0
            rw [readR_skip hsk] at hr0
            replace hr0 := hide hr0
            clear h35 hsk
            rcases hsplit with hlt | ⟨hlt, hrun⟩
            all_goals
              go_wp2_with fail
              go_roundw
              case rel => exact ⟨i + 1, i + 1, q + 1, k, done, A2, c2, rest', rfl, by go_num, by go_num, by go_num, by omega, by omega, by omega, by omega, hk, hL2, hr0, hown, heach, hE⟩
              case measure => simp [intOf]; omega
          · have h35' : ¬ (c.toNat : Int) = 35 := by omega
            have hpa := hide (rparse_any S wr (by omega))
            replace hr0 := hide hr0
            replace hsk := hide hsk
            clear h35
            rcases hsplit with hlt | ⟨hlt, hrun⟩
            all_goals
              go_wp2_with fail
              refine hpa.out.mono ?_
              rintro en w2 hP
              obtain ⟨hE2, e, B, d, j, rfl, hB, hi2⟩ := hP.own
              have hco := hi2.evOf
              clear hP hi2
              unfold Ev.val
              rcases hco with ⟨rfl, hev⟩ | ⟨rfl, hev⟩
              · obtain ⟨w3, hw3⟩ : ∃ w3, w3 = w2.alloc (.cells #[.int .i64 e.at_, .slice B e.fs.length d] 24) := ⟨_, rfl⟩
                have hE3 : Ext w2 w3 := by rw [hw3]; exact (Ext.refl w2).alloc _
                have hr3 : Row w3 w2.heap.size 24 #[.int .i64 e.at_, .slice B e.fs.length d] := by rw [hw3]; exact Row.new w2 _ _
                have x0 := hr3.cell 0 rfl
                have x1 := hr3.cell 1 rfl
                have hown3 := (hE2.trans hE3).owns hown.out
                have hE03 := hide ((hE.out.trans hE2).trans hE3)
                have hsz3 : w.heap.size ≤ w3.heap.size := hE03.out.size
                have hB3 : (⟨e, B, d⟩ : EvC).Own w3 w.heap.size := ⟨hE3.owns (owns_lower hB.1 hE.out.size), hB.2⟩
                have hea3 := hide (show ∀ x ∈ done, x.Own w3 w.heap.size from fun x hx => ⟨(hE2.trans hE3).owns (heach.out x hx).1, (heach.out x hx).2⟩)
                replace hB3 := hide hB3
                rw [hw3] at x0 x1 hown3 hsz3
                have hr1 := hr0.out
                rw [readR_some _ hsk.out hev] at hr1
                replace hr1 := hide hr1
                replace hw3 := hide hw3
                clear hB hev
                go_wp2_with (at_builtin; refine wpList_appZ (us := [.int .i64 e.at_, .slice B e.fs.length d]) (m := 1) elemEv hown3 (by simp) (.tmp 50) (.tmp 52) rfl rfl rfl rfl rfl (one_of rfl) (by omega) hsz3 (fun A7 c7 w7 ho7 hg7 hl7 => ?_))
                have hne7 : ∀ k', (Value.slice A2 k c2).ownBlock = some k' → w.heap.size ≤ k' := fun k' hk' => by obtain ⟨_, _, hb⟩ := owns_row hown3 hk'; exact hb
                rw [← hw3.out] at hg7 hown3
                have hch : Chg (fun k' => (Value.slice A2 k c2).ownBlock = some k') w3 w7 := Chg.of_grown hg7 fun k' _ hk' => hk'
                have hun : ∀ g cs, Row w3 g 52 cs → ¬ (Value.slice A2 k c2).ownBlock = some g := fun g cs hr => owns_unlike hown3 hr (by decide)
                refine ⟨⟨i + 1, i + 1, q + 1, k + 1, done ++ [⟨e, B, d⟩], A7, c7, rest', rfl, by go_num, by go_num, by go_num, by omega, by omega, by omega, by omega, hide (by rw [List.length_append, ← hk.out]; rfl), hL2, hide ?_, hide (by rw [ecells_snoc]; exact ho7), hide ?_, hide (hE03.out.grown hg7 hne7)⟩, ?_⟩
                · rw [List.map_append]
                  exact hr1.out
                · intro x hx
                  rcases List.mem_append.1 hx with hx | hx
                  · exact EvC.Own.chg (hea3.out x hx) hch hun
                  · rw [List.mem_singleton.1 hx]
                    exact EvC.Own.chg hB3.out hch hun
                · simp [intOf]; omega
              · have hr1 := hr0.out
                rw [readR_none hsk.out hev] at hr1
                have hfin : ∀ wz, Ext w wz → ReadP w text (.returned (.tuple #[.slice none 0 0, .int .i64 (q : Int), .int .i64 310])) wz := fun wz hz => ⟨hz, .inr ⟨q, by rw [hr1]; rfl, rfl⟩⟩
                replace hfin := hide hfin
                clear hr1 hev
                go_wp2_with fail
                go_ret3
                exact hfin.out _ ((hE.out.trans hE2).alloc _)
    · have hr0 := hrd.out
      have hrest : rest = [] := by
        rcases hL.out with ⟨h, _⟩ | ⟨_, h⟩
        · omega
        · exact h
      rw [hrest] at hr0
      have hfin : ReadP w text (.returned (.tuple #[.slice A2 k c2, .int .i64 0, .int .i64 0])) wr := by
        refine ⟨hE.out, .inl ⟨done, A2, c2, ?_, by rw [hk.out], ⟨Cells.of_own hown.out, fun x hx => (heach.out x hx).ok⟩⟩⟩
        rw [hr0]
        simp [readR, ahead]
      replace hfin := hide hfin
      clear hr0 hrest
      go_wp2_with fail
      go_ret3
      exact hfin.out
end Go.Proofs.YtpajpdkliohepaaDoor
