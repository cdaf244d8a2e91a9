/- loggia/manifest: sum, Encode. -/
import Derived.Test.YtijnomopcpgikaaDoorMeP
import Derived.Test.YtijnomopcpgikaaDoorMfE
import Derived.Test.YtijnomopcpgikaaDoorVaB
import Derived.Test.YtijnomopcpgikaaDoorCrC
namespace Go.Proofs.YtijnomopcpgikaaDoor
open Go.RowKit

theorem le4_B8 {s : Nat} (hs : s < 4294967296) : (le4 s).map B8 = [.int .u8 ((s : Int) % 256), .int .u8 ((s : Int) / 256 % 256), .int .u8 ((s : Int) / 65536 % 256), .int .u8 ((s : Int) / 16777216)] := by
  have h : ∀ (k : Nat) (z : Int), k < 256 → z = (k : Int) → B8 (UInt8.ofNat k) = .int .u8 z := fun k z hk hz => by unfold B8; rw [UInt8.toNat_ofNat', Nat.mod_eq_of_lt hk, hz]
  unfold le4
  simp only [List.map_cons, List.map_nil]
  rw [h _ ((s : Int) % 256) (by omega) (by omega), h _ ((s : Int) / 256 % 256) (by omega) (by omega), h _ ((s : Int) / 65536 % 256) (by omega) (by omega), h _ ((s : Int) / 16777216) (by omega) (by omega)]
set_option maxRecDepth 100000 in
set_option maxHeartbeats 1000000 in
theorem msum_any (A : Option Addr) (n c : Nat) (l : List UInt8) (w : World) (h : In8 w A n c l) (hle : n ≤ 1000000000) :
    Calls Tryd.prog 26 #[.slice A n c] w fun e w' => NewB w (le4 (cnext 0 l)) e w' := by
  have hl := h.len
  have hs := sum_any (some ⟨w.heap.size, 0, none⟩) 1 1 [(A, c, l)] (w.alloc (.cells #[.slice A n c] 25)) rfl (.inr ⟨w.heap.size, 0, rfl, fun i v hv => by
      rw [Nat.zero_add, cell_of_row _ _ _ _ _ _ (heap_alloc_new w _), hl]
      simpa using hv⟩) (fun p hp => by
      obtain rfl := List.mem_singleton.1 hp
      rw [hl] at h
      exact h.ext ((Ext.refl w).alloc _)) (fun p hp => by
      obtain rfl := List.mem_singleton.1 hp
      show l.length ≤ _
      omega) (by omega)
  have hcs : csum 0 ([(A, c, l)].map fun p => p.2.2) = cnext 0 l := rfl
  have hlt := cnext_lt 0 l
  rw [hcs] at hs
  obtain ⟨s, hsd⟩ : ∃ s, s = cnext 0 l := ⟨_, rfl⟩
  rw [← hsd] at hs hlt ⊢
  clear hsd hcs
  have hE0 : Ext w (w.alloc (.cells #[.slice A n c] 25)) := (Ext.refl w).alloc _
  replace hs := hide hs
  replace hl := hide hl
  replace hE0 := hide hE0
  clear h
  go_enter Tryd.func26, Tryd.ntmps26
  go_wp2_with fail
  refine hs.out.mono ?_
  rintro e w1 ⟨rfl, hE1⟩
  go_wp2_with fail
  go_ret
  have hnb := buf_new w1 [.int .u8 ((s : Int) % 256), .int .u8 ((s : Int) / 256 % 256), .int .u8 ((s : Int) / 65536 % 256), .int .u8 ((s : Int) / 16777216)] 5 (by simp)
  exact ⟨_, _, rfl, by rw [le4_B8 hlt]; exact hnb.lower (hE0.out.trans hE1).size, (hE0.out.trans hE1).alloc _⟩
def pnums (p : Pt) : List Int := [p.id, p.st, p.lo, p.hi, p.fi, p.la]
def encI (m : Mf) (i : Nat) : List UInt8 := [76, 71, 77, 49] ++ (vall [m.floor, m.done, m.log, m.next, m.now] ++ (vb m.ps.length ++ (m.ps.take i).flatMap fun p => vall (pnums p)))
theorem encI_all (m : Mf) : encI m m.ps.length = encB m := by unfold encI; rw [List.take_length]; rfl
theorem encI_zero (m : Mf) : encI m 0 = ([76, 71, 77, 49] ++ vall [m.floor, m.done, m.log, m.next, m.now]) ++ vb m.ps.length := by unfold encI; rw [List.take_zero, List.flatMap_nil, List.append_nil, List.append_assoc]
theorem encI_succ {m : Mf} {i : Nat} {p : Pt} (h : m.ps[i]? = some p) : encI m (i + 1) = encI m i ++ vall (pnums p) := by
  have hi := (List.getElem?_eq_some_iff.1 h).1
  have h2 := (List.getElem?_eq_some_iff.1 h).2
  unfold encI
  rw [List.take_succ_eq_append_getElem hi, List.flatMap_append, h2]
  simp
theorem vall_len (xs : List Int) (hx : ∀ x ∈ xs, -9223372036854775808 ≤ x ∧ x ≤ 9223372036854775807) : (vall xs).length ≤ 10 * xs.length := by
  have := vall_take xs hx xs.length
  rwa [List.take_length] at this
theorem pnums_ok {p : Pt} (h : p.Ok) : ∀ x ∈ pnums p, -9223372036854775808 ≤ x ∧ x ≤ 9223372036854775807 := by
  intro n hn
  unfold pnums at hn
  simp only [List.mem_cons, List.not_mem_nil, or_false] at hn
  rcases hn with rfl | rfl | rfl | rfl | rfl | rfl
  · exact h.id
  · exact h.st
  · exact h.lo
  · exact h.hi
  · exact h.fi
  · exact h.la
theorem heads_ok {m : Mf} (h : m.In) : ∀ x ∈ [m.floor, m.done, m.log, m.next, m.now], -9223372036854775808 ≤ x ∧ x ≤ 9223372036854775807 := by
  intro n hn
  simp only [List.mem_cons, List.not_mem_nil, or_false] at hn
  rcases hn with rfl | rfl | rfl | rfl | rfl
  · exact h.floor
  · exact h.done
  · exact h.log
  · exact h.next
  · exact h.now
theorem encI_len {m : Mf} (h : m.In) (h5 : m.ps.length ≤ 512) : ∀ i, i ≤ m.ps.length → (encI m i).length ≤ 64 + 60 * i
  | 0, _ => by
    have h1 := vall_len _ (heads_ok h)
    have h2 := vb_len10 (n := m.ps.length) (by omega)
    rw [encI_zero]
    simp only [List.length_append, List.length_cons, List.length_nil] at h1 ⊢
    omega
  | i + 1, hi => by
    have ih := encI_len h h5 i (by omega)
    have hg : m.ps[i]? = some m.ps[i] := List.getElem?_eq_getElem (by omega)
    have h1 := vall_len _ (pnums_ok (h.parts m.ps[i] (List.getElem_mem (by omega))))
    rw [encI_succ hg, List.length_append]
    have : (pnums m.ps[i]).length = 6 := rfl
    omega
/-- What Encode answers. -/
def EncP (w : World) (m : Mf) (e : Ending) (w' : World) : Prop := Ext w w' ∧ (checkP m = 0 → ∃ A c, e = .returned (.tuple #[.slice A (encM m).length c, .int .i64 0]) ∧ Buf w' w.heap.size 5 A (encM m).length c ((encM m).map B8)) ∧ (checkP m ≠ 0 → e = .returned (.tuple #[.slice none 0 0, .int .i64 (checkP m)]))
set_option maxRecDepth 100000 in
set_option maxHeartbeats 4000000 in
theorem encode_any (base : Nat) (m : Mf) (A : Option Addr) (c : Nat) (w : World) (h : m.Ok w base A c) : Calls Tryd.prog 8 #[m.val A c] w fun e w' => EncP w m e w' := by
  have hp := h.parts
  have hin := h.in_
  have hck : ∀ W, Ext w W → Calls Tryd.prog 23 #[m.val A c] W fun e w' => e = .returned (.int .i64 (checkP m)) ∧ Ext W w' := fun W hE => check_any base m A c W (h.ext hE)
  have hrow : Row (w.alloc (.cells #[.slice A m.ps.length c, .int .i64 m.floor, .int .i64 m.done, .int .i64 m.log, .int .i64 m.next, .int .i64 m.now] 24)) w.heap.size 24 #[.slice A m.ps.length c, .int .i64 m.floor, .int .i64 m.done, .int .i64 m.log, .int .i64 m.next, .int .i64 m.now] := Row.new w _ _
  have hE0 : Ext w (w.alloc (.cells #[.slice A m.ps.length c, .int .i64 m.floor, .int .i64 m.done, .int .i64 m.log, .int .i64 m.next, .int .i64 m.now] 24)) := (Ext.refl w).alloc _
  unfold Mf.val at hck ⊢
  replace hck := hide hck
  by_cases hc : checkP m = 0
  · obtain ⟨h5, hpp⟩ := checkP_zero hc
    have hcn : (checkP m : Int) = 0 := by omega
    have hc' := hide hc
    rw [hcn] at hck
    clear hc hcn h hpp
    have hfl := hide (heads_ok hin)
    have hle := hide (encI_len hin h5)
    replace hin := hide hin
    replace hrow := hide hrow
    replace hE0 := hide hE0
    replace hp := hide hp
    go_enter Tryd.func8, Tryd.ntmps8
    go_wp2_with fail
    refine (hck.out _ hE0.out).mono ?_
    rintro e w1 ⟨rfl, hE1⟩
    have hr1 := hide (hrow.out.ext hE1)
    have hE2 := hide (hE0.out.trans hE1)
    have x0 := hr1.out.cell 0 rfl
    have x1 := hr1.out.cell 1 rfl
    have x2 := hr1.out.cell 2 rfl
    have x3 := hr1.out.cell 3 rfl
    have x4 := hr1.out.cell 4 rfl
    have x5 := hr1.out.cell 5 rfl
    have hlt1 := hr1.out.lt
    have hsame := run_same w1 #[.int .u8 76, .int .u8 71, .int .u8 77, .int .u8 49] 4 4
    have hmk : Bs (w1.alloc (.cells #[.int .u8 76, .int .u8 71, .int .u8 77, .int .u8 49] 5 (4, 5))) (some ⟨w1.heap.size, 0, none⟩) [76, 71, 77, 49] := marked_bytes w1 [76, 71, 77, 49] 5 (4, 5)
    have hput := putAll_any (some ⟨w1.heap.size, 0, none⟩) (some ⟨w1.heap.size + 1, 0, none⟩) 4 4 5 5 [m.floor, m.done, m.log, m.next, m.now] [76, 71, 77, 49] ((w1.alloc (.cells #[.int .u8 76, .int .u8 71, .int .u8 77, .int .u8 49] 5 (4, 5))).alloc (.cells #[.int .i64 m.floor, .int .i64 m.done, .int .i64 m.log, .int .i64 m.next, .int .i64 m.now] 3)) rfl (hmk.ext ((Ext.refl _).alloc _)) nofun rfl (.inr ⟨w1.heap.size + 1, 0, rfl, fun i v hv => by
      have hn := heap_alloc_new (w1.alloc (.cells #[.int .u8 76, .int .u8 71, .int .u8 77, .int .u8 49] 5 (4, 5))) (.cells #[.int .i64 m.floor, .int .i64 m.done, .int .i64 m.log, .int .i64 m.next, .int .i64 m.now] 3)
      rw [show (w1.alloc (.cells #[.int .u8 76, .int .u8 71, .int .u8 77, .int .u8 49] 5 (4, 5))).heap.size = w1.heap.size + 1 by simp] at hn
      rw [Nat.zero_add, cell_of_row _ _ _ _ _ _ hn]
      simpa using hv⟩) (by omega) hfl.out
    have hE3 : Ext w1 ((w1.alloc (.cells #[.int .u8 76, .int .u8 71, .int .u8 77, .int .u8 49] 5 (4, 5))).alloc (.cells #[.int .i64 m.floor, .int .i64 m.done, .int .i64 m.log, .int .i64 m.next, .int .i64 m.now] 3)) := ((Ext.refl w1).alloc _).alloc _
    replace hput := hide hput
    replace hE3 := hide hE3
    clear hmk
    go_wp2_with fail
    refine hput.out.mono ?_
    rintro e w2 ⟨A2, c2, rfl, hb2, hE4⟩
    have hE5 := hE3.out.trans hE4
    have y0 := hE5.cell x0
    have hE6 := hide (hE2.out.trans hE5)
    have hlen2 := vall_len _ hfl.out
    obtain ⟨n2, hn2⟩ : ∃ n2, n2 = ([76, 71, 77, 49] ++ vall [m.floor, m.done, m.log, m.next, m.now]).length := ⟨_, rfl⟩
    rw [← hn2] at hb2 ⊢
    have hn264 : n2 ≤ 64 := by rw [hn2, List.length_append]; simp only [List.length_cons, List.length_nil] at hlen2 ⊢; omega
    have hput2 := put_any A2 n2 c2 m.ps.length _ w2 hn2 hb2.cells hb2.none_cap (by omega) (by omega)
    rw [← encI_zero] at hput2
    clear x0 x1 x2 x3 x4 x5 hsame hput hck hb2 hlen2 hE4 hE5 hlt1
    replace hput2 := hide hput2
    replace hn2 := hide hn2
    go_wp2_with fail
    refine hput2.out.mono ?_
    rintro e w3 ⟨A3, c3, rfl, hb3, hE7⟩
    have hE8 := hide (hE6.out.trans hE7)
    have z0 := hE7.cell y0
    have hb4 := hide (hb3.lower hE6.out.size)
    obtain ⟨n3, hn3⟩ : ∃ n3, n3 = (encI m 0).length := ⟨_, rfl⟩
    rw [← hn3] at hb4 ⊢
    replace hn3 := hide hn3
    clear hput2 hb3 y0 hE7
    go_wp2_with fail
    go_loopw [5, 36] (fun s5 s36 wr => ∃ (i : Nat) (A4 : Option Addr) (n4 c4 : Nat), s36 = .int .i64 i ∧ i ≤ m.ps.length ∧ s5 = .slice A4 n4 c4 ∧ Hid (n4 = (encI m i).length) ∧ Hid (Buf wr w.heap.size 5 A4 n4 c4 ((encI m i).map B8)) ∧ Hid (Ext w wr)) (fun _ s36 _ => m.ps.length - (intOf s36).toNat)
    case atStart => exact ⟨0, A3, n3, c3, rfl, by omega, rfl, hn3, hb4, hE8⟩
    case round =>
      obtain ⟨i, A4, n4, c4, rfl, hi, rfl, hn4, hb5, hE9⟩ := hrel
      have hl4 := hle.out i hi
      have hn4b : n4 ≤ 64 + 60 * i := by rw [hn4.out]; exact hl4
      clear hl4
      by_cases hik : i < m.ps.length
      · obtain ⟨g, o, p, rfl, hpi, hpo, k0, k1, k2, k3, k4, k5, k6⟩ := (hp.out.ext hE9.out).at_ hik
        have hsu := encI_succ hpi
        have hcx : Ext wr ((wr.alloc (.cells #[.int .i64 p.id, .int .i64 p.st, .int .i64 p.lo, .int .i64 p.hi, .int .i64 p.fi, .int .i64 p.la, .int .i64 p.n] 40)).alloc (.cells #[.int .i64 p.id, .int .i64 p.st, .int .i64 p.lo, .int .i64 p.hi, .int .i64 p.fi, .int .i64 p.la] 3)) := ((Ext.refl wr).alloc _).alloc _
        have hpa := putAll_any A4 (some ⟨wr.heap.size + 1, 0, none⟩) n4 c4 6 6 (pnums p) (encI m i) ((wr.alloc (.cells #[.int .i64 p.id, .int .i64 p.st, .int .i64 p.lo, .int .i64 p.hi, .int .i64 p.fi, .int .i64 p.la, .int .i64 p.n] 40)).alloc (.cells #[.int .i64 p.id, .int .i64 p.st, .int .i64 p.lo, .int .i64 p.hi, .int .i64 p.fi, .int .i64 p.la] 3)) hn4.out ((hb5.out.ext hcx).cells) hb5.out.none_cap rfl (.inr ⟨wr.heap.size + 1, 0, rfl, fun i v hv => by
          have hn := heap_alloc_new (wr.alloc (.cells #[.int .i64 p.id, .int .i64 p.st, .int .i64 p.lo, .int .i64 p.hi, .int .i64 p.fi, .int .i64 p.la, .int .i64 p.n] 40)) (.cells #[.int .i64 p.id, .int .i64 p.st, .int .i64 p.lo, .int .i64 p.hi, .int .i64 p.fi, .int .i64 p.la] 3)
          rw [show (wr.alloc (.cells #[.int .i64 p.id, .int .i64 p.st, .int .i64 p.lo, .int .i64 p.hi, .int .i64 p.fi, .int .i64 p.la, .int .i64 p.n] 40)).heap.size = wr.heap.size + 1 by simp] at hn
          rw [Nat.zero_add, cell_of_row _ _ _ _ _ _ hn]
          simpa [pnums] using hv⟩) (by omega) (pnums_ok hpo)
        rw [← hsu] at hpa
        have hwrs := hE9.out.size
        have hgl : g < wr.heap.size := World.block_lt_of_cell? wr _ k0
        replace hpa := hide hpa
        replace hcx := hide hcx
        clear hsu hpi hpo
        go_wp2_with fail
        refine hpa.out.mono ?_
        rintro e w5 ⟨A5, c5, rfl, hb6, hE10⟩
        have hE11 := hide (hE9.out.trans (hcx.out.trans hE10))
        have hb7 := hide (hb6.lower (hE9.out.trans hcx.out).size)
        obtain ⟨n5, hn5⟩ : ∃ n5, n5 = (encI m (i + 1)).length := ⟨_, rfl⟩
        rw [← hn5] at hb7 ⊢
        replace hn5 := hide hn5
        clear hb6 hE10
        go_wp2_with fail
        go_roundw
        case rel => exact ⟨i + 1, A5, n5, c5, by go_num, by omega, rfl, hn5, hb7, hE11⟩
        case measure => simp [intOf]; omega
      · obtain rfl : i = m.ps.length := by omega
        rw [encI_all] at hn4 hb5
        have hsm := msum_any A4 n4 c4 (encB m) wr hb5.out.in8 (by omega)
        have hwrs := hE9.out.size
        have hl4 : (le4 (cnext 0 (encB m))).length = 4 := rfl
        replace hsm := hide hsm
        replace hl4 := hide hl4
        go_wp2_with fail
        refine hsm.out.mono ?_
        rintro e w5 ⟨A5, c5, rfl, hb6, hE10⟩
        have hb7 := hb5.out.ext hE10
        have hE11 := hE9.out.trans hE10
        have hws5 := hE11.size
        go_wp2_with (at_builtin; refine wpList_buf elemB hb7 hb6.cells (.tmp 56) (.tmp 58) rfl rfl rfl rfl rfl (by rw [List.length_map]) (bytes_one _) (by rw [hl4.out]; omega) hws5 (fun A8 c8 w8 hb8 _ hE12 _ => ?_))
        go_ret2
        have hlm : n4 + (le4 (cnext 0 (encB m))).length = (encM m).length := by unfold encM; rw [List.length_append, ← hn4.out]
        have hmm : (encM m).map B8 = (encB m).map B8 ++ (le4 (cnext 0 (encB m))).map B8 := by unfold encM; rw [List.map_append]
        refine ⟨hE12 w hE11 (Nat.le_refl _), fun _ => ⟨A8, c8, by rw [← hlm]; rfl, by rw [hmm, ← hlm]; exact hb8⟩, fun h => absurd hc'.out h⟩
  · have hcn : ((checkP m : Int) != 0) = true := by simp; omega
    obtain ⟨k, hk⟩ : ∃ k, k = checkP m := ⟨_, rfl⟩
    rw [← hk] at hck hcn
    replace hk := hide hk
    replace hrow := hide hrow
    replace hE0 := hide hE0
    clear hp h hin
    go_enter Tryd.func8, Tryd.ntmps8
    go_wp2_with fail
    refine (hck.out _ hE0.out).mono ?_
    rintro e w1 ⟨rfl, hE1⟩
    go_wp2_with fail
    go_ret2
    exact ⟨hE0.out.trans hE1, fun h => absurd h hc, fun _ => by rw [← hk.out]; rfl⟩
end Go.Proofs.YtijnomopcpgikaaDoor
