/- loggia/lines: Read. -/
import Derived.Test.YtpajpdkliohepaaDoorLrB
namespace Go.Proofs.YtpajpdkliohepaaDoor
open Go.RowKit

/-- What Read answers: the events of a text's lines, or the number of the first line that is none's. -/
def ReadP (w : World) (text : List UInt8) (en : Ending) (w' : World) : Prop := Ext w w' ∧ ((∃ (l : List EvC) (A : Option Addr) (c : Nat), readR 1 (linesL text) = .ok (l.map (·.e)) ∧ en = .returned (.tuple #[.slice A l.length c, .int .i64 0, .int .i64 0]) ∧ EvsOk w' A l) ∨
  (∃ m : Nat, readR 1 (linesL text) = .error m ∧ en = .returned (.tuple #[.slice none 0 0, .int .i64 (m : Int), .int .i64 310])))
theorem linesL_mem : ∀ {t s : List UInt8}, s ∈ linesL t → s.length ≤ t.length
  | [], s, h => by rw [List.mem_singleton.1 h]; exact Nat.le_refl _
  | c :: r, s, h => by
    unfold linesL at h
    rw [List.length_cons]
    split at h
    · rcases List.mem_cons.1 h with rfl | h
      · simp
      · have := linesL_mem h; omega
    · split at h
      · rename_i hl
        have := linesL_len r
        rw [hl] at this
        simp at this
      · rename_i s0 ss hl
        rcases List.mem_cons.1 h with rfl | h
        · have := linesL_mem (t := r) (s := s0) (by rw [hl]; simp)
          rw [List.length_cons]
          omega
        · have := linesL_mem (t := r) (s := s) (by rw [hl]; simp [h])
          omega
set_option maxRecDepth 100000 in
theorem lsplit_any (t : List UInt8) (w : World) (ht : t.length ≤ 1100000) (hm : MaxL w) : Calls Tryd.prog 39 #[.string ⟨t.toArray⟩, .string ⟨#[10]⟩] w fun e w' => e = .returned (.slice (some ⟨w.heap.size, 0, none⟩) (linesL t).length (linesL t).length) ∧ Ext w w' ∧ Cells w' (some ⟨w.heap.size, 0, none⟩) ((linesL t).map strV) := by
  obtain ⟨m, hm⟩ := hm
  have hsz : (⟨t.toArray⟩ : ByteArray).size = t.length := ByteArray.size_mk_toArray t
  have hc : Lib.countB ⟨t.toArray⟩ ⟨#[10]⟩ = Lib.count t [10] := rfl
  have hln : Lib.count t [10] + 1 = (linesL t).length := by rw [Lib.count_one, linesL_len]
  have hsp : (Lib.splitB ⟨#[10]⟩ 0 (Lib.count t [10]) ⟨t.toArray⟩).map (fun s => s.data.toList) = linesL t := by
    rw [Lib.splitB_data]
    exact split_lines t.length t (Nat.le_refl _)
  refine (Tryd.strings_Split ⟨t.toArray⟩ ⟨#[10]⟩ m w (by rw [hsz]; omega) hm (by decide)).mono fun e w' ⟨he, hw⟩ => ?_
  rw [hc, hln] at he
  refine ⟨he, by rw [hw]; exact (Ext.refl w).alloc _, .inr ⟨w.heap.size, 0, rfl, fun i v hv => ?_⟩⟩
  rw [hw, hc, Nat.zero_add, cell_of_row _ _ _ _ _ _ (heap_alloc_new w _)]
  rw [← hsp, List.map_map] at hv
  have hfn : (strV ∘ fun s : ByteArray => s.data.toList) = Value.string := by funext s; exact strV_bytes s
  rw [hfn] at hv
  simpa using hv
theorem skip_cases {s : List UInt8} : (skipL s = true ∧ s = []) ∨ (∃ c r, s = c :: r ∧ (skipL s = true ∧ c.toNat = 35 ∨ skipL s = false ∧ c.toNat ≠ 35)) := by
  cases s with
  | nil => exact .inl ⟨rfl, rfl⟩
  | cons c r =>
    refine .inr ⟨c, r, rfl, ?_⟩
    by_cases h : c = 35
    · exact .inl ⟨by rw [h]; rfl, by rw [h]; rfl⟩
    · refine .inr ⟨by simp [skipL, h], fun h2 => h (UInt8.toNat_inj.1 h2)⟩
set_option maxRecDepth 100000 in
set_option maxHeartbeats 4000000 in
theorem read_any (text : List UInt8) (w : World) (hl : text.length ≤ 1000000) (hv : Vars w) : Calls Tryd.prog 21 #[.string ⟨text.toArray⟩] w fun en w' => ReadP w text en w' := by
  have hsp := hide (lsplit_any text w (by omega) hv.maxl)
  have hlm := @linesL_mem text
  have hlen : (linesL text).length ≤ 1000001 := by
    rw [linesL_len]
    have := List.count_le_length (a := (10 : UInt8)) (l := text)
    omega
  obtain ⟨ls, hls⟩ : ∃ ls, ls = linesL text := ⟨_, rfl⟩
  obtain ⟨n, hn⟩ : ∃ n, n = ls.length := ⟨_, rfl⟩
  rw [← hls] at hsp hlen hlm
  rw [← hn] at hsp hlen
  have hb1 : ¬ (1048576 : Int) < text.length := by omega
  replace hlm := hide (fun s hs => @hlm s hs)
  replace hls := hide hls
  replace hn := hide hn
  replace hv := hide hv
  go_enter Tryd.func21, Tryd.ntmps21
  go_wp2_with fail
  refine hsp.out.mono ?_
  rintro en w1 ⟨rfl, hE1, hc1⟩
  obtain ⟨g, hg⟩ : ∃ g, g = w.heap.size := ⟨_, rfl⟩
  rw [← hg] at hc1 ⊢
  replace hg := hide hg
  replace hc1 := hide hc1
  clear hsp
  go_wp2_with fail
  go_loopw [5, 16] (fun s5 s16 wr => ∃ (i k : Nat) (done : List EvC) (A2 : Option Addr) (c2 : Nat), s16 = .int .i64 (i : Int) ∧ s5 = .slice A2 k c2 ∧ i ≤ n ∧ k ≤ i ∧ Hid (k = done.length) ∧ Hid (readR 1 ls = ahead (done.map (·.e)) (readR (i + 1) (ls.drop i))) ∧ Hid (wr.ownsRow w1.heap.size 24 2 (.slice A2 k c2) k (ecells done)) ∧ Hid (∀ x ∈ done, x.Own wr w1.heap.size) ∧ Hid (Ext w1 wr)) (fun _ s16 _ => n - (intOf s16).toNat)
  case atStart => exact ⟨0, 0, [], none, 0, rfl, rfl, by omega, by omega, hide rfl, hide (by rw [List.drop_zero]; exact (ahead_nil _).symm), hide ⟨rfl, .inl ⟨rfl, rfl⟩⟩, hide nofun, hide (Ext.refl w1)⟩
  case round =>
    obtain ⟨i, k, done, A2, c2, rfl, rfl, hi, hki, hk, hrd, hown, heach, hE⟩ := hrel
    by_cases hin : i < n
    · obtain ⟨s, hs⟩ : ∃ s, ls[i]? = some s := ⟨_, List.getElem?_eq_getElem (by rw [← hn.out]; exact hin)⟩
      have k0 : wr.cell? ⟨g, i, none⟩ = some (.string ⟨s.toArray⟩) := by
        obtain ⟨g', o', hA, hc⟩ := (hc1.out.ext hE.out).at_ (by rw [List.length_map, ← hn.out]; omega)
        cases hA
        have h := hc i _ (by rw [List.getElem?_map, hs]; rfl)
        rw [Nat.zero_add] at h
        exact h
      have hdr : ls.drop i = s :: ls.drop (i + 1) := by
        obtain ⟨hi2, rfl⟩ := List.getElem?_eq_some_iff.1 hs
        exact List.drop_eq_getElem_cons hi2
      have hsl := hlm.out s (List.mem_of_getElem? hs)
      have hr0 := hrd.out
      rw [hdr] at hr0
      have hi0 : (0 : Int) ≤ i := by omega
      have hi1 : (i : Int) < n := by omega
      clear hs hdr
      rcases @skip_cases s with ⟨hsk, rfl⟩ | ⟨c, r, rfl, hcase⟩
      · rw [readR_skip hsk] at hr0
        replace hr0 := hide hr0
        go_wp2_with fail
        go_roundw
        case rel => exact ⟨i + 1, k, done, A2, c2, by go_num, rfl, by omega, by omega, hk, hr0, hown, heach, hE⟩
        case measure => simp [intOf]; omega
      · have hrun := fun W => run_strindex (l := c :: r) (i := 0) (b := c) rfl (z := 0) rfl W
        obtain ⟨S, hS⟩ : ∃ S, S = c :: r := ⟨_, rfl⟩
        have hemp : S.isEmpty = false := by rw [hS]; rfl
        rw [← hS] at hrun k0 hr0 hsl hcase
        clear hS
        rcases hcase with ⟨hsk, h35⟩ | ⟨hsk, h35⟩
        · obtain rfl : c = 35 := UInt8.toNat_inj.1 h35
          rw [show ((35 : UInt8).toNat : Int) = 35 from rfl] at hrun
          rw [readR_skip hsk] at hr0
          replace hr0 := hide hr0
          clear h35 hsk
          go_wp2_with fail
          go_roundw
          case rel => exact ⟨i + 1, k, done, A2, c2, by go_num, rfl, by omega, by omega, hk, hr0, hown, heach, hE⟩
          case measure => simp [intOf]; omega
        · have h35' : ¬ (c.toNat : Int) = 35 := by omega
          have hpa := hide (vparse_any S wr (by omega) ((hv.out.ext hE1).ext hE.out))
          replace hr0 := hide hr0
          replace hsk := hide hsk
          clear h35
          go_wp2_with fail
          refine hpa.out.mono ?_
          rintro en w2 hP
          obtain ⟨hE2, e, B, d, j, rfl, hB, hi2⟩ := hP.own
          have hco := hi2.evOf
          clear hP hi2
          unfold Ev.val
          rcases hco with ⟨rfl, hev⟩ | ⟨rfl, hev⟩
          · obtain ⟨w3, hw3⟩ : ∃ w3, w3 = w2.alloc (.cells #[.int .i64 e.at_, .slice B e.fs.length d] 24) := ⟨_, rfl⟩
            have hE3 : Ext w2 w3 := by rw [hw3]; exact (Ext.refl w2).alloc _
            have hr3 : Row w3 w2.heap.size 24 #[.int .i64 e.at_, .slice B e.fs.length d] := by rw [hw3]; exact Row.new w2 _ _
            have x0 := hr3.cell 0 rfl
            have x1 := hr3.cell 1 rfl
            have hown3 := (hE2.trans hE3).owns hown.out
            have hE03 := hide ((hE.out.trans hE2).trans hE3)
            have hsz3 : w1.heap.size ≤ w3.heap.size := hE03.out.size
            have hB3 : (⟨e, B, d⟩ : EvC).Own w3 w1.heap.size := ⟨hE3.owns (owns_lower hB.1 hE.out.size), hB.2⟩
            have hea3 := hide (show ∀ x ∈ done, x.Own w3 w1.heap.size from fun x hx => ⟨(hE2.trans hE3).owns (heach.out x hx).1, (heach.out x hx).2⟩)
            replace hB3 := hide hB3
            rw [hw3] at x0 x1 hown3 hsz3
            have hr1 := hr0.out
            rw [readR_some _ hsk.out hev] at hr1
            replace hr1 := hide hr1
            replace hw3 := hide hw3
            clear hB hev
            go_wp2_with (at_builtin; refine wpList_appZ (us := [.int .i64 e.at_, .slice B e.fs.length d]) (m := 1) elemEv hown3 (by simp) (.tmp 38) (.tmp 40) rfl rfl rfl rfl rfl (one_of rfl) (by omega) hsz3 (fun A7 c7 w7 ho7 hg7 hl7 => ?_))
            have hne7 : ∀ k', (Value.slice A2 k c2).ownBlock = some k' → w1.heap.size ≤ k' := fun k' hk' => by obtain ⟨_, _, hb⟩ := owns_row hown3 hk'; exact hb
            rw [← hw3.out] at hg7 hown3
            have hch : Chg (fun k' => (Value.slice A2 k c2).ownBlock = some k') w3 w7 := Chg.of_grown hg7 fun k' _ hk' => hk'
            have hun : ∀ g cs, Row w3 g 52 cs → ¬ (Value.slice A2 k c2).ownBlock = some g := fun g cs hr => owns_unlike hown3 hr (by decide)
            refine ⟨⟨i + 1, k + 1, done ++ [⟨e, B, d⟩], A7, c7, by go_num, rfl, by omega, by omega, hide (by rw [List.length_append, ← hk.out]; rfl), hide ?_, hide (by rw [ecells_snoc]; exact ho7), hide ?_, hide (hE03.out.grown hg7 hne7)⟩, ?_⟩
            · rw [List.map_append]
              exact hr1.out
            · intro x hx
              rcases List.mem_append.1 hx with hx | hx
              · exact EvC.Own.chg (hea3.out x hx) hch hun
              · rw [List.mem_singleton.1 hx]
                exact EvC.Own.chg hB3.out hch hun
            · simp [intOf]; omega
          · have hr1 := hr0.out
            rw [readR_none hsk.out hev] at hr1
            have hfin : ∀ wz, Ext w1 wz → ReadP w text (.returned (.tuple #[.slice none 0 0, .int .i64 ((i : Int) + 1), .int .i64 310])) wz := fun wz hz => ⟨hE1.trans hz, .inr ⟨i + 1, by rw [← hls.out, hr1]; rfl, by rfl⟩⟩
            replace hfin := hide hfin
            clear hr1 hev
            go_wp2_with fail
            go_ret3
            exact hfin.out _ ((hE.out.trans hE2).alloc _)
    · have hall : ls.drop i = [] := List.drop_eq_nil_of_le (by rw [← hn.out]; omega)
      have hr0 := hrd.out
      rw [hall] at hr0
      have hfin : ReadP w text (.returned (.tuple #[.slice A2 k c2, .int .i64 0, .int .i64 0])) wr := by
        refine ⟨hE1.trans hE.out, .inl ⟨done, A2, c2, ?_, by rw [hk.out], ⟨Cells.of_own hown.out, fun x hx => (heach.out x hx).ok⟩⟩⟩
        rw [← hls.out, hr0]
        simp [readR, ahead]
      replace hfin := hide hfin
      clear hr0 hall
      go_wp2_with fail
      go_ret3
      exact hfin.out
end Go.Proofs.YtpajpdkliohepaaDoor
