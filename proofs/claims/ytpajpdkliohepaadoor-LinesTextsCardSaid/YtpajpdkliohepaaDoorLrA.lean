/- loggia/lines: All. -/
import Derived.Test.YtpajpdkliohepaaDoorLrP
namespace Go.Proofs.YtpajpdkliohepaaDoor
open Go.RowKit

/-- What All answers, walked. -/
def AllP (w : World) (es : List Ev) (en : Ending) (w' : World) : Prop := en = .returned (.tuple #[.string ⟨(allR es).1.toArray⟩, .int .i64 ((allR es).2 : Int)]) ∧ Ext w w'
theorem flds_len : ∀ {fs : List Fd}, (∀ f ∈ fs, f.1.length ≤ 32 ∧ f.2.length ≤ 4096) → (flds fs).length ≤ 20000 * fs.length
  | [], _ => by simp [flds]
  | f :: fs, h => by
    rw [flds_cons, List.length_append, List.length_cons]
    have := flds_len (fs := fs) fun x hx => h x (by simp [hx])
    have h1 := h f (by simp)
    have := fieldL_len h1.1 h1.2
    omega
theorem fmt_len {at_ : Int} {fs : List Fd} (ha : I64ok' at_) (h : checkE fs = 0) : (fmtL at_ fs).length ≤ 320100 := by
  rw [fmtL_eq, List.length_append]
  have := itoa_len ha.1 ha.2
  have h1 := checkE_ok h
  have := flds_len h1.2
  omega
theorem allT_len : ∀ {es : List Ev}, (∀ e ∈ es, I64ok' e.at_) → (∀ e ∈ es, checkE e.fs = 0) → (allT es).length ≤ 320101 * es.length
  | [], _, _ => by simp [allT]
  | e :: es, ha, h => by
    have h1 := allT_len (es := es) (fun x hx => ha x (by simp [hx])) fun x hx => h x (by simp [hx])
    have h2 := fmt_len (ha e (by simp)) (h e (by simp))
    have h3 : (lineL e).length = (fmtL e.at_ e.fs).length + 1 := by unfold lineL; simp
    have h4 : (allT (e :: es)).length = (lineL e).length + (allT es).length := by unfold allT; rw [List.flatMap_cons, List.length_append]
    rw [h4, h3, List.length_cons]
    omega
theorem mem_take_map {es : List EvC} {i : Nat} {P : Ev → Prop} (h : ∀ x ∈ es, P x.e) : ∀ e ∈ (es.map (·.e)).take i, P e := fun e he => by
  obtain ⟨x, hx, rfl⟩ := List.mem_map.1 (List.mem_of_mem_take he)
  exact h x hx
set_option maxRecDepth 100000 in
set_option maxHeartbeats 4000000 in
theorem all_any (l : List EvC) (A : Option Addr) (c : Nat) (w : World) (h : EvsOk w A l) (hl : l.length ≤ 20) (ha : ∀ x ∈ l, I64ok' x.e.at_) (ht : Tabs w) :
    Calls Tryd.prog 19 #[.slice A l.length c] w fun en w' => AllP w (l.map (·.e)) en w' := by
  obtain ⟨W, hW⟩ : ∃ W, W = w.alloc (.cells #[.pointer none, .slice none 0 0] 57) := ⟨_, rfl⟩
  have hB : Bd W w.heap.size [] := by rw [hW]; exact Bd.fresh w
  have hEW : Ext w W := by rw [hW]; exact (Ext.refl w).alloc _
  obtain ⟨n, hn⟩ : ∃ n, n = l.length := ⟨_, rfl⟩
  obtain ⟨L, hL⟩ : ∃ L, L = l.map (·.e) := ⟨_, rfl⟩
  have hLn : L.length = n := by rw [hL, List.length_map, hn]
  have haL : ∀ i, ∀ e ∈ L.take i, I64ok' e.at_ := fun i => by rw [hL]; exact mem_take_map ha
  rw [← hn] at hl ⊢
  rw [← hL]
  obtain ⟨b, hb⟩ : ∃ b, b = w.heap.size := ⟨_, rfl⟩
  rw [← hb] at hB
  have hbl : w.heap.size ≤ b := Nat.le_of_eq hb.symm
  have hwr := hide (fun l s W => bwrite_any b l s W)
  have hwb := hide (fun l x W => bwbyte_any b l x W)
  have hst := hide (fun l W => bstring_any b l W)
  have hln := hide (fun l W => blen_any b l W)
  replace hn := hide hn
  replace hLn := hide hLn
  replace haL := hide haL
  replace hL := hide hL
  go_enter Tryd.func19, Tryd.ntmps19
  go_wp2_with fail
  rw [← hW, ← hb]
  clear hW
  replace hb := hide hb
  go_loopw [11] (fun s11 wr => ∃ i : Nat, s11 = .int .i64 (i : Int) ∧ i ≤ n ∧ Hid (∀ e ∈ L.take i, checkE e.fs = 0) ∧ Hid (Bd wr b (allT (L.take i))) ∧ Hid (Ext w wr)) (fun s11 _ => n - (intOf s11).toNat)
  case atStart => exact ⟨0, rfl, by omega, hide (by simp), hide (by simpa [allT] using hB), hide hEW⟩
  case round =>
    obtain ⟨i, rfl, hi, hck, hbd, hE⟩ := hrel
    by_cases hin : i < n
    · obtain ⟨x, hx⟩ : ∃ x, l[i]? = some x := ⟨_, List.getElem?_eq_getElem (by rw [← hn.out]; exact hin)⟩
      have hxe : L[i]? = some x.e := by rw [hL.out, List.getElem?_map, hx]; rfl
      have hxo := (h.each x (List.mem_of_getElem? hx)).ext hE.out
      have hxa := ha x (List.mem_of_getElem? hx)
      obtain ⟨g, o, hA, k0, k1⟩ := ecells_at (h.cells.ext hE.out) hx
      have hak := @allK_at L i x.e hxe hck.out
      have htk := allT_take hxe
      have htl := allT_len (haL.out i) hck.out
      obtain ⟨y, B, d⟩ := x
      simp only at hxe hxo hxa k0 k1 hak htk
      subst hA
      have hfm := fun W hE => format_any y B d W (hxo.ext hE) hxa (ht.ext ((‹Hid (Ext w wr)›).out.trans hE))
      unfold Ev.val FmtP at hfm
      have hfl := @fmt_len y.at_ y.fs hxa
      obtain ⟨k, hk⟩ : ∃ k, k = checkE y.fs := ⟨_, rfl⟩
      rw [← hk] at hfm hak hfl
      obtain ⟨Wf, hWf⟩ : ∃ Wf, Wf = wr.alloc (.cells #[.int .i64 y.at_, .slice B y.fs.length d] 24) := ⟨_, rfl⟩
      have hEf : Ext wr Wf := by rw [hWf]; exact (Ext.refl wr).alloc _
      have hi0 : (0 : Int) ≤ i := by omega
      have hi1 : (i : Int) < n := by omega
      replace hk := hide hk
      replace hfm := hide hfm
      have hxe' := hide hxe
      clear hx hxe
      by_cases hk0 : k = 0
      · subst hk0
        rw [if_pos rfl] at hfm
        have hfl0 := hfl rfl
        obtain ⟨F, hF⟩ : ∃ F, F = fmtL y.at_ y.fs := ⟨_, rfl⟩
        rw [← hF] at hfm hfl0 htk
        have hwr1 : ∀ W, Ext wr W → Calls Tryd.prog 25 #[.pointer (some ⟨b, 0, none⟩), .string ⟨F.toArray⟩] W fun e w' => e = .returned (.tuple #[.int .i64 F.length, .nilIface]) ∧ Bd w' b (allT (L.take i) ++ F) ∧ Below b W w' := fun W hW => hwr.out (allT (L.take i)) F W (hbd.out.ext hW) (by have := List.length_take_le i L; omega)
        have hwb1 : ∀ W, Bd W b (allT (L.take i) ++ F) → Calls Tryd.prog 37 #[.pointer (some ⟨b, 0, none⟩), .int .u8 10] W fun e w' => e = .returned .nilIface ∧ Bd w' b (allT (L.take (i + 1))) ∧ Below b W w' := fun W hW => by
          have h := hwb.out (allT (L.take i) ++ F) 10 W hW (by rw [List.length_append]; have := List.length_take_le i L; omega)
          rw [htk]
          exact h
        replace hwr1 := hide hwr1
        replace hwb1 := hide hwb1
        have hck2 : Hid (∀ e ∈ L.take (i + 1), checkE e.fs = 0) := hide (by
          intro e he
          rw [take_one2 hxe'.out] at he
          rcases List.mem_append.1 he with he | he
          · exact hck.out e he
          · rw [List.mem_singleton.1 he]; exact hk.out.symm)
        clear hF htk hfl hfl0 htl hak
        go_wp2_with fail
        rw [← hWf]
        refine (hfm.out _ hEf).mono ?_
        rintro en w2 ⟨rfl, hE2⟩
        have hw2 := hide (hwr1.out w2 (hEf.trans hE2))
        go_wp2_with fail
        refine hw2.out.mono ?_
        rintro en w3 ⟨rfl, hB3, hE3⟩
        have hw3 := hide (hwb1.out w3 hB3)
        have hE03 := hide (show Ext w w3 from Below.trans ((hE.out.trans hEf).trans hE2) (Below.mono hE3 hbl))
        clear hB3 hE3
        go_wp2_with fail
        refine hw3.out.mono ?_
        rintro en w4 ⟨rfl, hB4, hE4⟩
        have hE04 := hide (show Ext w w4 from Below.trans hE03.out (Below.mono hE4 hbl))
        replace hB4 := hide hB4
        clear hE4
        go_wp2_with fail
        go_roundw
        case rel => exact ⟨i + 1, by go_num, by omega, hck2, hB4, hE04⟩
        case measure => simp [intOf]; omega
      · rw [if_neg hk0] at hfm
        have hk0' : ¬ (k : Int) = 0 := by omega
        have hfin : ∀ wz, Ext w wz → AllP w L (.returned (.tuple #[.string ⟨#[]⟩, .int .i64 k])) wz := fun wz hz => by
          have h1 := hak hk0
          refine ⟨?_, hz⟩
          unfold allR
          rw [if_neg (by omega), h1]
        replace hfin := hide hfin
        go_wp2_with fail
        rw [← hWf]
        refine (hfm.out _ hEf).mono ?_
        rintro en w2 ⟨rfl, hE2⟩
        go_wp2_with fail
        go_ret2
        exact hfin.out _ ((hE.out.trans hEf).trans hE2)
    · have hall : L.take i = L := List.take_of_length_le (by rw [hLn.out]; omega)
      rw [hall] at hck hbd
      have hk0 := allK_zero hck.out
      have hl1 := hide (hln.out _ wr hbd.out)
      have hs1 := hide (hst.out _ wr hbd.out)
      obtain ⟨T, hT⟩ : ∃ T, T = allT L := ⟨_, rfl⟩
      rw [← hT] at hl1 hs1
      by_cases hbig : 1048576 < T.length
      · have hfin : ∀ wz, Ext w wz → AllP w L (.returned (.tuple #[.string ⟨#[]⟩, .int .i64 2])) wz := fun wz hz => by
          refine ⟨?_, hz⟩
          unfold allR
          rw [if_pos hk0, if_pos (by rw [← hT]; exact hbig)]
          rfl
        have hb' : (1048576 : Int) < T.length := by omega
        replace hfin := hide hfin
        clear hT hk0
        go_wp2_with fail
        refine hl1.out.mono ?_
        rintro en w2 ⟨rfl, rfl⟩
        go_wp2_with fail
        go_ret2
        exact hfin.out _ hE.out
      · have hfin : ∀ wz, Ext w wz → AllP w L (.returned (.tuple #[.string ⟨T.toArray⟩, .int .i64 0])) wz := fun wz hz => by
          refine ⟨?_, hz⟩
          unfold allR
          rw [if_pos hk0, if_neg (by rw [← hT]; exact hbig), hT]
          rfl
        have hb' : ¬ (1048576 : Int) < T.length := by omega
        replace hfin := hide hfin
        clear hT hk0
        go_wp2_with fail
        refine hl1.out.mono ?_
        rintro en w2 ⟨rfl, rfl⟩
        go_wp2_with fail
        refine hs1.out.mono ?_
        rintro en w3 ⟨rfl, hE3⟩
        go_wp2_with fail
        go_ret2
        exact hfin.out _ (Below.trans hE.out (Below.mono hE3 hbl))
end Go.Proofs.YtpajpdkliohepaaDoor
