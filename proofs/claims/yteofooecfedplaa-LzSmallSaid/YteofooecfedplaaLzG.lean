/- loggia/lz: Pack. -/
import Derived.Test.YteofooecfedplaaLzF
namespace Go.Proofs.Yteofooecfedplaa
open Go.RowKit Go.Maps

/-- What is packed from i on, the run that is under way from fr on. -/
def packF (l : List UInt8) : Nat → Nat → Nat → List UInt8 → List UInt8
  | 0, _, fr, out => out ++ runs (seg l fr l.length)
  | f + 1, i, fr, out =>
    if i < l.length then
      if 0 < (matchM l i).1 then packF l f (i + (matchM l i).1) (i + (matchM l i).1) (out ++ runs (seg l fr i) ++ [UInt8.ofNat ((matchM l i).1 + 124), UInt8.ofNat ((matchM l i).2 / 256), UInt8.ofNat (matchM l i).2])
      else packF l f (i + 1) fr out
    else out ++ runs (seg l fr l.length)
def packM (l : List UInt8) : List UInt8 := packF l l.length 0 0 (head4 l.length)

set_option maxRecDepth 100000 in
set_option maxHeartbeats 2000000 in
theorem pack_any (A : Option Addr) (c : Nat) (l : List UInt8) (w : World) (hl : Bs w A l) (hA : ∀ a, A = some a → a.block < w.heap.size) (hn : l.length ≤ 1048576) (hc : l.length ≤ c) :
    Calls Try.prog 8 #[.slice A l.length c] w fun e w' => ∃ A1 n1 c1, e = .returned (.tuple #[.slice A1 n1 c1, .int .i64 0]) ∧ n1 = (packM l).length ∧ w'.ownsRow w.heap.size 5 1 (.slice A1 n1 c1) n1 ((packM l).map B8) ∧ Ext w w' := by
  have hmm := @run_makeMap Try.prog
  go_enter Try.func8, Try.ntmps8
  go_wp2_with fail
  have b8 : ∀ (z : Nat) (y : Int), y = ((z % 256 : Nat) : Int) → Value.int .u8 y = B8 (UInt8.ofNat z) := fun z y h => by
    unfold B8
    rw [h]
    congr 1
  obtain ⟨b, hb⟩ : ∃ b, b = w.heap.size + 1 + 1 := ⟨_, rfl⟩
  obtain ⟨m, hm⟩ : ∃ m, m = w.heap.size + 1 := ⟨_, rfl⟩
  obtain ⟨W, hW⟩ : ∃ W, W = ((w.alloc (.cells #[.int .u8 ((l.length : Int) / 16777216), .int .u8 ((l.length : Int) / 65536), .int .u8 ((l.length : Int) / 256 % 256), .int .u8 ((l.length : Int) % 256)] 5)).alloc (.map #[] 0)).alloc
      (.cells #[.slice A l.length c, .slice (some ⟨w.heap.size, 0, none⟩) 4 4, .int .i64 0, .map (some (w.heap.size + 1))] 44) := ⟨_, rfl⟩
  have hEW : Ext w W := by rw [hW]; exact (((Ext.refl w).alloc _).alloc _).alloc _
  have hPS0 : PS W b m w.heap.size A c l 0 0 (head4 l.length) (some ⟨w.heap.size, 0, none⟩) 4 [] := by
    refine ⟨?_, ?_, ⟨?_, by simp, fun x _ _ => rfl, by simp⟩, hEW.size, by omega, by omega⟩
    · rw [hW, hb, hm]
      have := Row.new ((w.alloc (.cells #[.int .u8 ((l.length : Int) / 16777216), .int .u8 ((l.length : Int) / 65536), .int .u8 ((l.length : Int) / 256 % 256), .int .u8 ((l.length : Int) % 256)] 5)).alloc (.map #[] 0)) 44 #[.slice A l.length c, .slice (some ⟨w.heap.size, 0, none⟩) 4 4, .int .i64 0, .map (some (w.heap.size + 1))]
      simpa [pk, head4] using this
    · rw [hW]
      refine World.ownsRow.alloc (World.ownsRow.alloc ⟨rfl, .inr ⟨w.heap.size, 4, _, rfl, Nat.le_refl _, heap_alloc_new w _, by simp [head4], by simp [maxLen], rfl, ?_⟩⟩ _) _
      simp only [head4, List.map_cons, List.map_nil, List.length_cons, List.length_nil]
      rw [← b8 (l.length / 16777216) ((l.length : Int) / 16777216) (by omega), ← b8 (l.length / 65536) ((l.length : Int) / 65536) (by omega), ← b8 (l.length / 256) ((l.length : Int) / 256 % 256) (by omega), ← b8 l.length ((l.length : Int) % 256) (by omega)]
      rfl
    · rw [hW, hm]
      have := (MapL.made (P := Try.prog) (k := 54) (w.alloc (.cells #[.int .u8 ((l.length : Int) / 16777216), .int .u8 ((l.length : Int) / 65536), .int .u8 ((l.length : Int) / 256 % 256), .int .u8 ((l.length : Int) % 256)] 5))).alloc (.cells #[.slice A l.length c, .slice (some ⟨w.heap.size, 0, none⟩) 4 4, .int .i64 0, .map (some (w.heap.size + 1))] 44)
      simpa using this
  rw [← hW, ← hb]
  clear hmm
  replace hb := hide hb
  replace hm := hide hm
  replace hW := hide hW
  replace b8 := hide b8
  have hPS0' := hide hPS0
  clear hPS0
  go_loopw [6] (fun s6 wr => ∃ (i f fr : Nat) (out : List UInt8) (Ao : Option Addr) (co : Nat) (L : List (Value × Value)), s6 = .int .i64 i ∧ i ≤ l.length ∧ l.length - i ≤ f ∧ fr ≤ i ∧ out.length ≤ 4 + 3 * fr ∧ Hid (packF l f i fr out = packM l) ∧
      Hid (PS wr b m w.heap.size A c l i fr out Ao co L) ∧ Ext w wr) (fun s6 _ => (l.length - (intOf s6).toNat))
  case atStart => exact ⟨0, l.length, 0, head4 l.length, _, _, _, rfl, by omega, by omega, by omega, by simp [head4], rfl, hPS0', hEW⟩
  case round =>
    obtain ⟨i, f, fr, out, Ao, co, L, rfl, hi, hf, hfr, hol, hpk, hPS, hEr⟩ := hrel
    clear hPS0' 
    by_cases hil : i < l.length
    · obtain ⟨f, rfl⟩ : ∃ f', f = f' + 1 := ⟨f - 1, by omega⟩
      have hlr := hl.ext hEr
      have hms := matchM_spec (l := l) (i := i) (by omega)
      go_wp2_with fail
      refine (match_ps hPS.out hlr (by omega) hc hil).mono ?_
      obtain ⟨n, hnn⟩ : ∃ n, n = (matchM l i).1 := ⟨_, rfl⟩
      obtain ⟨d, hdd⟩ : ∃ d, d = (matchM l i).2 := ⟨_, rfl⟩
      have hpk1 : packF l (f + 1) i fr out = (if 0 < n then packF l f (i + n) (i + n) (out ++ runs (seg l fr i) ++ [UInt8.ofNat (n + 124), UInt8.ofNat (d / 256), UInt8.ofNat d]) else packF l f (i + 1) fr out) := by
        rw [hnn, hdd]
        show (if i < l.length then _ else _) = _
        rw [if_pos hil]
      rw [← hnn, ← hdd] at hms ⊢
      replace hpk1 := hide hpk1
      replace hnn := hide hnn
      replace hdd := hide hdd
      rintro e w1 ⟨rfl, hE1⟩
      have hP1 := hide (hPS.out.ext hE1)
      by_cases hn0 : 0 < n
      · go_wp2_with fail
        refine (run_ps i hP1.out (hlr.ext hE1) hA (by omega) hc hfr (by omega) (by omega)).mono ?_
        rintro e w2 ⟨rfl, ⟨A1, c1, hP2⟩, hB2⟩
        have hrl := runs_le (seg l fr i)
        rw [seg_length (by omega)] at hrl
        obtain ⟨out1, hout1⟩ : ∃ o, o = out ++ runs (seg l fr i) := ⟨_, rfl⟩
        have hol1 : out1.length ≤ 4 + 3 * i := by rw [hout1]; simp; omega
        rw [← hout1] at hP2
        obtain ⟨n1, hn1⟩ : ∃ n, n = out1.length := ⟨_, rfl⟩
        have hown2 := hP2.own
        have R2 := hP2.row
        rw [← hn1] at hown2 R2 hol1
        have hsz2 := hP2.sz
        replace hP2 := hide hP2
        replace hn1 := hide hn1
        replace hout1 := hide hout1
        have ca1 : w2.cell? ⟨b, 1, none⟩ = some (.slice A1 n1 c1) := R2.cell 1 rfl
        go_wp2_with (at_builtin; refine wpList_appN elemB hown2 (.tmp 48) (.tmp 58) rfl rfl rfl rfl (one_of rfl) (by simp; omega) hsz2 (fun A2 c2 w3 ho3 hg3 hl3 => ?_); have hne : some b ≠ (Value.slice A1 n1 c1).ownBlock := fun e => owns_unlike hown2 R2 (by decide) e.symm; have R3 := R2.grown hg3 hne; have ca1 : w3.cell? ⟨b, 1, none⟩ = some (.slice A1 n1 c1) := R3.cell 1 rfl; have ca2 : w3.cell? ⟨b, 2, none⟩ = some (.int .i64 i) := R3.cell 2 rfl; have f1 := R3.free 1; have f2 := R3.free 2)
        have e3 : [Value.int .u8 ((n : Int) + 128 - 4), Value.int .u8 ((d : Int) / 256), Value.int .u8 ((d : Int) % 256)] = [UInt8.ofNat (n + 124), UInt8.ofNat (d / 256), UInt8.ofNat d].map B8 := by
          simp only [List.map_cons, List.map_nil]
          rw [b8.out (n + 124) _ (by omega), b8.out (d / 256) _ (by omega), b8.out d _ (by omega)]
        obtain ⟨out2, hout2⟩ : ∃ o, o = out1 ++ [UInt8.ofNat (n + 124), UInt8.ofNat (d / 256), UInt8.ofNat d] := ⟨_, rfl⟩
        have hol2 : out2.length = n1 + 3 := by rw [hout2, hn1.out]; simp
        have ho3' : w3.ownsRow w.heap.size 5 1 (.slice A2 (n1 + 3) c2) (n1 + 3) (out2.map B8) := by
          rw [hout2, List.map_append, ← e3]
          exact ho3
        have hne3 : (Value.slice A2 (n1 + 3) c2).ownBlock ≠ some b := owns_unlike ho3' R3 (by decide)
        have hP4 : PS ((w3.setCell ⟨b, 1, none⟩ (.slice A2 (n1 + 3) c2)).setCell ⟨b, 2, none⟩ (.int .i64 ((i : Int) + n))) b m w.heap.size A c l i (i + n) out2 A2 c2 L := by
          have hg := hP2.out.grp_keep (w1 := (w3.setCell ⟨b, 1, none⟩ (.slice A2 (n1 + 3) c2)).setCell ⟨b, 2, none⟩ (.int .i64 ((i : Int) + n))) (by
            have c1' := Chg.of_grown (S := fun k => k = b ∨ (Value.slice A1 out1.length c1).ownBlock = some k) hg3 fun k _ h => .inr (by rw [← hn1.out]; exact h)
            have c2' := c1'.trans (Chg.of_set (S := fun i => i = b) w3 (a := ⟨b, 1, none⟩) (.slice A2 (n1 + 3) c2) rfl) fun i _ h => .inl h
            exact c2'.trans (Chg.of_set (S := fun i => i = b) _ (a := ⟨b, 2, none⟩) (.int .i64 ((i : Int) + n)) rfl) fun i _ h => .inl h)
          refine ⟨?_, ?_, hg, ?_, hP2.out.bb, hP2.out.mb⟩
          · rw [hol2]
            exact (R3.put 1 _).put 2 _
          · rw [hol2]
            exact owns_set (owns_set ho3' (a := ⟨b, 1, none⟩) hne3 _) (a := ⟨b, 2, none⟩) hne3 _
          · have := hg3.size
            simp [World.setCell]
            omega
        have hE4 : Ext w ((w3.setCell ⟨b, 1, none⟩ (.slice A2 (n1 + 3) c2)).setCell ⟨b, 2, none⟩ (.int .i64 ((i : Int) + n))) := by
          have hb1 : Below w.heap.size w w2 := Below.trans (Below.trans hEr (Below.mono hE1 hEr.size)) hB2
          have hb2 := hb1.grown hg3 hsz2 (fun k hk => (hown2.lt k hk).1)
          exact (hb2.setCell (p := ⟨b, 1, none⟩) hP2.out.bb _).setCell (p := ⟨b, 2, none⟩) hP2.out.bb _
        have hfin : packF l f (i + n) (i + n) out2 = packM l := by
          rw [← hpk.out, hpk1.out, if_pos hn0, hout2, hout1.out]
        replace hP4 := hide hP4
        replace hE4 := hide hE4
        replace hfin := hide hfin
        replace hol2 := hide hol2
        replace hout2 := hide hout2
        clear ho3 e3 hg3 hl3 hown2 R2 R3 ca1 ca2 f1 f2 ho3'
        generalize (w3.setCell ⟨b, 1, none⟩ (.slice A2 (n1 + 3) c2)).setCell ⟨b, 2, none⟩ (.int .i64 ((i : Int) + n)) = w4 at hP4 hE4 ⊢
        go_loopw [6, 70] (fun s6 s70 wr => ∃ (t : Nat) (L : List (Value × Value)), t ≤ n ∧ s70 = .int .i64 t ∧ s6 = .int .i64 ((i + t : Nat) : Int) ∧ Hid (PS wr b m w.heap.size A c l (i + t) (i + n) out2 A2 c2 L) ∧ Ext w wr) (fun _ s70 _ => n - (intOf s70).toNat)
        case atStart => exact ⟨0, L, by omega, rfl, rfl, hP4, hE4.out⟩
        case round =>
          obtain ⟨t, L', ht, rfl, rfl, hPt, hEt⟩ := hrel
          by_cases hts : t < n
          · go_wp2_with fail
            refine (note_ps hPt.out (hl.ext hEt) (by omega) hc (by omega)).mono ?_
            rintro e w6 ⟨rfl, ⟨L6, hP6⟩, hB6⟩
            replace hP6 := hide hP6
            have hE6 : Ext w w6 := Below.trans hEt hB6
            go_wp2_with fail
            go_roundw
            case rel => exact ⟨t + 1, L6, by omega, by go_num, by go_num, hP6, hE6⟩
            case measure => simp [intOf]; omega
          · obtain rfl : n = t := by omega
            go_wp2_with fail
            go_roundw
            case rel => exact ⟨i + n, f, (i + n), out2, A2, c2, L', rfl, by omega, by omega, by omega, by rw [hol2.out]; omega, hfin, hPt, hEt⟩
            case measure => simp [intOf]; omega
      · go_wp2_with fail
        go_loopw [6, 70] (fun s6 s70 wr => ∃ (t : Nat) (L : List (Value × Value)), t ≤ 1 ∧ s70 = .int .i64 t ∧ s6 = .int .i64 ((i + t : Nat) : Int) ∧ Hid (PS wr b m w.heap.size A c l (i + t) fr out Ao co L) ∧ Ext w wr) (fun _ s70 _ => 1 - (intOf s70).toNat)
        case atStart => exact ⟨0, L, by omega, rfl, rfl, hP1, (hEr.trans hE1)⟩
        case round =>
          obtain ⟨t, L', ht, rfl, rfl, hPt, hEt⟩ := hrel
          by_cases hts : t < 1
          · go_wp2_with fail
            refine (note_ps hPt.out (hl.ext hEt) (by omega) hc (by omega)).mono ?_
            rintro e w6 ⟨rfl, ⟨L6, hP6⟩, hB6⟩
            replace hP6 := hide hP6
            have hE6 : Ext w w6 := Below.trans hEt hB6
            go_wp2_with fail
            go_roundw
            case rel => exact ⟨t + 1, L6, by omega, by go_num, by go_num, hP6, hE6⟩
            case measure => simp [intOf]; omega
          · obtain rfl : 1 = t := by omega
            go_wp2_with fail
            go_roundw
            case rel => exact ⟨i + 1, f, fr, out, Ao, co, L', rfl, by omega, by omega, by omega, hol, hide (by rw [← hpk.out, hpk1.out, if_neg hn0]), hPt, hEt⟩
            case measure => simp [intOf]; omega
    · obtain rfl : i = l.length := by omega
      have hfin : packM l = out ++ runs (seg l fr l.length) := by
        rw [← hpk.out]
        cases f with
        | zero => rfl
        | succ f => show (if l.length < l.length then _ else _) = _; rw [if_neg (by omega)]
      replace hfin := hide hfin
      go_wp2_with fail
      refine (run_ps l.length hPS.out (hl.ext hEr) hA (by omega) hc hfr (Nat.le_refl _) (by omega)).mono ?_
      rintro e w2 ⟨rfl, ⟨A1, c1, hP2⟩, hB2⟩
      rw [← hfin.out] at hP2
      have R2 := hP2.row
      have ca1 : w2.cell? ⟨b, 1, none⟩ = some (.slice A1 (packM l).length c1) := R2.cell 1 rfl
      go_wp2_with fail
      go_ret2
      exact ⟨A1, _, c1, rfl, rfl, hP2.own, Below.trans hEr hB2⟩
end Go.Proofs.Yteofooecfedplaa
