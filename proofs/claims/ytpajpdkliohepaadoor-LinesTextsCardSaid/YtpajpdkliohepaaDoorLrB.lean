/- loggiaref31: All, SameAll. -/
import Derived.Test.YtpajpdkliohepaaDoorLrA
namespace Go.Proofs.YtpajpdkliohepaaDoor
open Go.RowKit

set_option maxRecDepth 100000 in
set_option maxHeartbeats 4000000 in
theorem rall_any (l : List EvC) (A : Option Addr) (c : Nat) (w : World) (h : EvsOk w A l) (hl : l.length ≤ 20) (ha : ∀ x ∈ l, I64ok' x.e.at_) :
    Calls Tryd.prog 20 #[.slice A l.length c] w fun en w' => AllP w (l.map (·.e)) en w' := by
  obtain ⟨n, hn⟩ : ∃ n, n = l.length := ⟨_, rfl⟩
  obtain ⟨L, hL⟩ : ∃ L, L = l.map (·.e) := ⟨_, rfl⟩
  have hLn : L.length = n := by rw [hL, List.length_map, hn]
  have haL : ∀ i, ∀ e ∈ L.take i, I64ok' e.at_ := fun i => by rw [hL]; exact mem_take_map ha
  rw [← hn] at hl ⊢
  rw [← hL]
  replace hn := hide hn
  replace hLn := hide hLn
  replace haL := hide haL
  replace hL := hide hL
  go_enter Tryd.func20, Tryd.ntmps20
  go_wp2_with fail
  go_loopw [4, 5] (fun s4 s5 wr => ∃ (i : Nat) (T : List UInt8), s5 = .int .i64 (i : Int) ∧ s4 = .string ⟨T.toArray⟩ ∧ i ≤ n ∧ T.length ≤ 320101 * i ∧ Hid (T = allT (L.take i)) ∧ Hid (∀ e ∈ L.take i, checkE e.fs = 0) ∧ Hid (Ext w wr)) (fun _ s5 _ => n - (intOf s5).toNat)
  case atStart => exact ⟨0, [], rfl, rfl, by omega, by simp, hide (by simp [allT]), hide (by simp), hide (Ext.refl _)⟩
  case round =>
    obtain ⟨i, T, rfl, rfl, hi, hTl, hT, hck, hE⟩ := hrel
    by_cases hin : i < n
    · obtain ⟨x, hx⟩ : ∃ x, l[i]? = some x := ⟨_, List.getElem?_eq_getElem (by rw [← hn.out]; exact hin)⟩
      have hxe : L[i]? = some x.e := by rw [hL.out, List.getElem?_map, hx]; rfl
      have hxo := (h.each x (List.mem_of_getElem? hx)).ext hE.out
      have hxa := ha x (List.mem_of_getElem? hx)
      obtain ⟨g, o, hA, k0, k1⟩ := ecells_at (h.cells.ext hE.out) hx
      have hak := @allK_at L i x.e hxe hck.out
      have htk := allT_take hxe
      rw [← hT.out] at htk
      obtain ⟨y, B, d⟩ := x
      simp only at hxe hxo hxa k0 k1 hak htk
      subst hA
      have hfm := fun W hE => rformat_any y B d W (hxo.ext hE) hxa
      unfold Ev.val FmtP at hfm
      have hfl := @fmt_len y.at_ y.fs hxa
      obtain ⟨k, hk⟩ : ∃ k, k = checkE y.fs := ⟨_, rfl⟩
      rw [← hk] at hfm hak hfl
      have hi0 : (0 : Int) ≤ i := by omega
      have hi1 : (i : Int) < n := by omega
      have hxe' := hide hxe
      replace hk := hide hk
      replace hfm := hide hfm
      clear hx hxe
      by_cases hk0 : k = 0
      · subst hk0
        rw [if_pos rfl] at hfm
        have hfl0 := hfl rfl
        obtain ⟨F, hF⟩ : ∃ F, F = fmtL y.at_ y.fs := ⟨_, rfl⟩
        rw [← hF] at hfm hfl0 htk
        have hcat : (ByteArray.mk T.toArray ++ ByteArray.mk F.toArray ++ ByteArray.mk #[10]) = ⟨(allT (L.take (i + 1))).toArray⟩ := by
          rw [htk, show (#[10] : Array UInt8) = ([10] : List UInt8).toArray from rfl, cat2, cat2]
        have hl1 : T.length + F.length ≤ 9223372036854775807 := by omega
        have hl2 : T.length + F.length + 1 ≤ 9223372036854775807 := by omega
        have hl3 : T.length + F.length ≤ 9223372036854775806 := by omega
        have hTn : Hid ((allT (L.take (i + 1))).length ≤ 320101 * (i + 1)) := hide (by rw [htk, List.length_append, List.length_append]; simp only [List.length_cons, List.length_nil]; omega)
        have hck2 : Hid (∀ e ∈ L.take (i + 1), checkE e.fs = 0) := hide (by
          intro e he
          rw [take_one2 hxe'.out] at he
          rcases List.mem_append.1 he with he | he
          · exact hck.out e he
          · rw [List.mem_singleton.1 he]; exact hk.out.symm)
        replace hcat := hide hcat
        clear hF htk hfl hfl0 hak
        go_wp2_with fail
        refine (hfm.out _ (Ext.refl _)).mono ?_
        rintro en w2 ⟨rfl, hE2⟩
        have hE02 := hide (hE.out.trans hE2)
        go_wp2_with fail
        go_roundw
        case rel => exact ⟨i + 1, allT (L.take (i + 1)), by go_num, by rw [hcat.out], by omega, hTn.out, hide rfl, hck2, hE02⟩
        case measure => simp [intOf]; omega
      · rw [if_neg hk0] at hfm
        have hk0' : ¬ (k : Int) = 0 := by omega
        have hfin : ∀ wz, Ext w wz → AllP w L (.returned (.tuple #[.string ⟨#[]⟩, .int .i64 k])) wz := fun wz hz => by
          have h1 := hak hk0
          refine ⟨?_, hz⟩
          unfold allR
          rw [if_neg (by omega), h1]
        replace hfin := hide hfin
        go_wp2_with fail
        refine (hfm.out _ (Ext.refl _)).mono ?_
        rintro en w2 ⟨rfl, hE2⟩
        go_wp2_with fail
        go_ret2
        exact hfin.out _ (hE.out.trans hE2)
    · have hall : L.take i = L := List.take_of_length_le (by rw [hLn.out]; omega)
      rw [hall] at hck hT
      have hk0 := allK_zero hck.out
      by_cases hbig : 1048576 < T.length
      · have hfin : ∀ wz, Ext w wz → AllP w L (.returned (.tuple #[.string ⟨#[]⟩, .int .i64 2])) wz := fun wz hz => by
          refine ⟨?_, hz⟩
          unfold allR
          rw [if_pos hk0, if_pos (by rw [← hT.out]; exact hbig)]
          rfl
        have hb' : (1048576 : Int) < T.length := by omega
        replace hfin := hide hfin
        clear hk0
        go_wp2_with fail
        go_ret2
        exact hfin.out _ hE.out
      · have hfin : ∀ wz, Ext w wz → AllP w L (.returned (.tuple #[.string ⟨T.toArray⟩, .int .i64 0])) wz := fun wz hz => by
          refine ⟨?_, hz⟩
          unfold allR
          rw [if_pos hk0, if_neg (by rw [← hT.out]; exact hbig), hT.out]
          rfl
        have hb' : ¬ (1048576 : Int) < T.length := by omega
        replace hfin := hide hfin
        clear hk0
        go_wp2_with fail
        go_ret2
        exact hfin.out _ hE.out
end Go.Proofs.YtpajpdkliohepaaDoor
