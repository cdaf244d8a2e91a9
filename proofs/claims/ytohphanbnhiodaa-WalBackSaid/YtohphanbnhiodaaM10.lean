/- slices.Grow of nothing, slices.Concat of bytes. -/
import Derived.Test.YtohphanbnhiodaaM07
import Derived.Test.YtohphanbnhiodaaM09
import Derived.Lib.AppendZeros
import Derived.Test.YtohphanbnhiodaaM02
import Derived.Test.YtohphanbnhiodaaM06
import Derived.Test.YtohphanbnhiodaaM08
set_option linter.unusedSimpArgs false
set_option linter.unusedVariables false
namespace Go.Proofs.Ytohphanbnhiodaa
open Go.RowKit

set_option maxRecDepth 100000 in
set_option maxHeartbeats 1000000 in
theorem grow_any (n : Nat) (w : World) (hn : n ≤ 1000000000) : Calls Try.prog 79 #[.slice none 0 0, .int .i64 n] w fun e w' => ∃ A c, e = .returned (.slice A 0 c) ∧ Buf w' w.heap.size 5 A 0 c [] ∧ Ext w w' := by
  have hn0 : ¬ (n : Int) < 0 := by omega
  rcases Nat.eq_zero_or_pos n with rfl | hpos
  · go_enter Try.func79, Try.ntmps79
    go_wp2_with fail
    go_ret
    exact ⟨none, 0, rfl, Buf.nil _ _ _, Ext.refl w⟩
  · have hpos' : (0 : Int) < n := by omega
    obtain ⟨i, z, hi, hz, h3, h4, h5⟩ := elemB.hi
    have hrun := fun W ty => Lib.run_append_nil_zeros (P := Try.prog) W 31 3 ty 5 i z .i64 .i64 Try.underlying31 Try.underlying3 hi hz n hpos (by omega) (by omega) (by rw [h4]; omega)
    have hge := grownCap_ge w n 0 5
    obtain ⟨cur, hcur⟩ : ∃ cur, cur = Builtin.zeroCells z.cells n ++ Builtin.zeroCells z.cells (grownCap w n 0 5 - n) := ⟨_, rfl⟩
    have hcs : cur.size = grownCap w n 0 5 := by rw [hcur, Array.size_append, size_zeroCells, size_zeroCells, h5]; omega
    have hh0 := fun W => run_head1 (n := 0) (c := 0) (k := 0) (A := none) (Nat.le_refl _) nofun W
    have hh1 := fun W => run_head1 (n := n) (c := grownCap w n 0 5) (k := 0) (A := some ⟨w.heap.size, 0, none⟩) (by omega) (fun a ha => by cases ha; rfl) W
    obtain ⟨C, hC⟩ : ∃ C, C = grownCap w n 0 5 := ⟨_, rfl⟩
    rw [← hC] at hge hh1
    have hrun1 := fun ty => hrun w ty
    rw [← hcur, ← hC] at hrun1
    rw [← hC] at hcs
    replace hrun1 := hide hrun1
    clear hrun hC hcur h5 h4 h3 hz hi
    go_enter Try.func79, Try.ntmps79
    go_wp2_with (at_builtin; refine Lib.wpList_append_run _ rfl (.tmp 20) (.tmp 21) 31 3 rfl (.slice none 0 0) (.int .i64 n) rfl rfl _ _ (hrun1.out _) ?_)
    go_ret
    refine ⟨some ⟨w.heap.size, 0, none⟩, C, rfl, ⟨rfl, Nat.zero_le _, .inr ⟨w.heap.size, cur, rfl, Nat.le_refl _, heap_alloc_new w _, by omega, by simp⟩⟩, ?_⟩
    exact ((Ext.refl w).alloc _).drew
/-- The bytes of slices, one behind the other. -/
def catL (ps : List (Option Addr × Nat × List UInt8)) : List UInt8 := ps.flatMap fun p => p.2.2
theorem catL_take {ps : List (Option Addr × Nat × List UInt8)} {i : Nat} (h : i < ps.length) : catL (ps.take (i + 1)) = catL (ps.take i) ++ ps[i].2.2 := by
  unfold catL
  rw [List.take_succ_eq_append_getElem h, List.flatMap_append]
  simp
theorem catL_take_len (ps : List (Option Addr × Nat × List UInt8)) (i : Nat) : (catL (ps.take i)).length ≤ (catL ps).length := by
  have h : catL ps = catL (ps.take i) ++ catL (ps.drop i) := by
    unfold catL
    rw [← List.flatMap_append, List.take_append_drop]
  rw [h, List.length_append]
  omega
set_option maxRecDepth 100000 in
set_option maxHeartbeats 2000000 in
theorem concat_any (B : Option Addr) (k c2 : Nat) (ps : List (Option Addr × Nat × List UInt8)) (w : World) (hk : k = ps.length) (hB : Cells w B (ps.map fun p => .slice p.1 p.2.2.length p.2.1)) (hin : ∀ p ∈ ps, In8 w p.1 p.2.2.length p.2.1 p.2.2) (hle : (catL ps).length ≤ 1000000000) (hk9 : k ≤ 1000000) :
    Calls Try.prog 59 #[.slice B k c2] w fun e w' => NewB w (catL ps) e w' := by
  have hctl := catL_take_len ps
  obtain ⟨T, hT⟩ : ∃ T, T = (catL ps).length := ⟨_, rfl⟩
  rw [← hT] at hle hctl
  replace hk := hide hk
  replace hin := hide hin
  replace hctl := hide hctl
  replace hT := hide hT
  go_enter Try.func59, Try.ntmps59
  go_wp2_with fail
  go_loopw [3, 5, 11] (fun s3 _ s11 wr => ∃ (i v : Nat), s11 = .int .i64 (i : Int) ∧ i ≤ k ∧ s3 = .int .i64 (v : Int) ∧ v ≤ T ∧ Hid (v = (catL (ps.take i)).length) ∧ wr = w) (fun _ _ s11 _ => k - (intOf s11).toNat)
  case atStart => exact ⟨0, 0, rfl, by omega, rfl, by omega, hide (by simp [catL]), rfl⟩
  case round =>
    obtain ⟨i, v, rfl, hi, rfl, hv, hvl, rfl⟩ := hrel
    by_cases hik : i < k
    · have hil : i < ps.length := by rw [← hk.out]; omega
      obtain ⟨g, o, rfl, hc⟩ := hB.at_ (by rw [List.length_map]; omega)
      have hcell := hc i _ (by rw [List.getElem?_map, List.getElem?_eq_getElem hil]; rfl)
      have htk := catL_take hil
      have htl := hctl.out (i + 1)
      obtain ⟨p, hp⟩ : ∃ p, p = ps[i] := ⟨_, rfl⟩
      rw [← hp] at hcell htk
      have hvn : v + p.2.2.length = (catL (ps.take (i + 1))).length := by rw [htk, List.length_append, hvl.out]
      have hvT : v + p.2.2.length ≤ T := by omega
      have hnn : ¬ ((v : Int) + (p.2.2.length : Int)) < 0 := by omega
      have hi0 : (0 : Int) ≤ i := by omega
      have hi1 : (i : Int) < k := by omega
      replace hvn := hide hvn
      clear hp hc htk htl
      go_wp2_with fail
      go_roundw
      case rel => exact ⟨i + 1, v + p.2.2.length, by go_num, by omega, by go_num, hvT, hvn, trivial⟩
      case measure => simp [intOf]; omega
    · have hall : ps.take i = ps := List.take_of_length_le (by rw [← hk.out]; omega)
      have hgr := hide (grow_any v wr (by omega))
      rw [hall] at hvl
      go_wp2_with fail
      refine hgr.out.mono ?_
      rintro e w1 ⟨A1, c1, rfl, hb1, hE1⟩
      replace hb1 := hide hb1
      obtain ⟨wo, hwo⟩ : ∃ wo, wo = wr := ⟨_, rfl⟩
      rw [← hwo] at hE1 hB hin hb1
      have hgoal : ∀ e w', NewB wo (catL ps) e w' → NewB wr (catL ps) e w' := fun e w' h => by rw [← hwo]; exact h
      replace hgoal := hide hgoal
      replace hwo := hide hwo
      go_wp2_with fail
      go_loopw [6, 8, 27] (fun s6 _ s27 wz => ∃ (i n4 c4 : Nat) (A4 : Option Addr), s27 = .int .i64 (i : Int) ∧ i ≤ k ∧ s6 = .slice A4 n4 c4 ∧ n4 ≤ T ∧ Hid (n4 = (catL (ps.take i)).length) ∧ Hid (Buf wz wo.heap.size 5 A4 n4 c4 ((catL (ps.take i)).map B8)) ∧ Hid (Ext wo wz)) (fun _ _ s27 _ => k - (intOf s27).toNat)
      case atStart => exact ⟨0, 0, c1, A1, rfl, by omega, rfl, by omega, hide (by simp [catL]), hide (by simpa [catL] using hb1.out), hide hE1⟩
      case round =>
        obtain ⟨j, n4, c4, A4, rfl, hj, rfl, hn4, hnl, hb4, hE⟩ := hrel
        by_cases hjk : j < k
        · have hil : j < ps.length := by rw [← hk.out]; omega
          obtain ⟨g, o, rfl, hc⟩ := hB.at_ (by rw [List.length_map]; omega)
          have hcell := hE.out.cell (hc j _ (by rw [List.getElem?_map, List.getElem?_eq_getElem hil]; rfl))
          have htk := catL_take hil
          have htl := hctl.out (j + 1)
          have hpin := (hin.out _ (List.getElem_mem hil)).ext hE.out
          obtain ⟨p, hp⟩ : ∃ p, p = ps[j] := ⟨_, rfl⟩
          rw [← hp] at hcell htk hpin
          have hvn : n4 + p.2.2.length = (catL (ps.take (j + 1))).length := by rw [htk, List.length_append, hnl.out]
          have hvT : n4 + p.2.2.length ≤ T := by omega
          have hmap : (catL (ps.take (j + 1))).map B8 = (catL (ps.take j)).map B8 ++ p.2.2.map B8 := by rw [htk, List.map_append]
          have hi0 : (0 : Int) ≤ j := by omega
          have hi1 : (j : Int) < k := by omega
          have hszr : wo.heap.size ≤ (‹World›).heap.size := hE.out.size
          replace hvn := hide hvn
          replace hmap := hide hmap
          clear hp hc htk htl
          go_wp2_with (at_builtin; refine wpList_buf elemB hb4.out hpin.bytes (.tmp 31) (.tmp 32) rfl rfl rfl rfl rfl (by rw [List.length_map]) (fun u hu => by obtain ⟨x, _, rfl⟩ := List.mem_map.1 hu; rfl) (by omega) hszr (fun A5 c5 w5 hb5 hg5 hE5 _ => ?_))
          refine ⟨⟨j + 1, n4 + p.2.2.length, c5, A5, by go_num, by omega, rfl, hvT, hvn, hide (by rw [hmap.out]; exact hb5), hide (hE5 _ hE.out (Nat.le_refl _))⟩, ?_⟩
          simp [intOf]
          omega
        · have hall : ps.take j = ps := List.take_of_length_le (by rw [← hk.out]; omega)
          rw [hall] at hnl hb4
          have hfin : ∀ wz, Ext wo wz → Buf wz wo.heap.size 5 A4 n4 c4 ((catL ps).map B8) → NewB wo (catL ps) (.returned (.slice A4 n4 c4)) wz := fun wz h1 h2 => ⟨A4, c4, by rw [← hnl.out], by rw [← hnl.out]; exact h2, h1⟩
          replace hfin := hide hfin
          go_wp2_with fail
          go_ret
          exact hgoal.out _ _ (hfin.out _ hE.out hb4.out)
end Go.Proofs.Ytohphanbnhiodaa

/- Frames, plainly. -/
namespace Go.Proofs.Ytohphanbnhiodaa
open Go.RowKit

/-- Four bytes of a number, the greatest first. -/
def be4 (s : Nat) : List UInt8 := [UInt8.ofNat (s / 16777216 % 256), UInt8.ofNat (s / 65536 % 256), UInt8.ofNat (s / 256 % 256), UInt8.ofNat (s % 256)]
/-- The number of bytes, the greatest first. -/
def be (l : List UInt8) : Nat := l.foldl (fun s x => s * 256 + x.toNat) 0
theorem be_be4 {s : Nat} (h : s < 4294967296) : be (be4 s) = s := by
  have h1 : ∀ k, (UInt8.ofNat (k % 256)).toNat = k % 256 := fun k => by rw [UInt8.toNat_ofNat']; omega
  unfold be be4
  simp only [List.foldl_cons, List.foldl_nil, h1]
  omega
theorem cnot_cnot {x : Nat} (h : x < 4294967296) : cnot (cnot x) = x := by unfold cnot; omega
theorem cnext_app (a b : List UInt8) : cnext (cnext 0 a) b = cnext 0 (a ++ b) := by
  unfold cnext
  rw [cnot_cnot (fold_lt a (by unfold cnot; omega)), List.foldl_append]
/-- A payload's frame. -/
def frameL (p : List UInt8) : List UInt8 := vb p.length ++ be4 (cnext 0 (vb p.length ++ p)) ++ p
/-- The payload of the frame that stands first, and what stands behind; or why there is none. -/
def getF (l : List UInt8) : Except Nat (List UInt8 × List UInt8) := match getV 0 l with
  | .error k => if k = 6 then .error 41 else .error 40
  | .ok (n, r) => if 16777216 < n then .error 40 else if r.length < 4 + n then .error 41 else
    if cnext 0 (l.take (l.length - r.length) ++ (r.drop 4).take n) = be (r.take 4) then .ok ((r.drop 4).take n, r.drop (4 + n)) else .error 40
theorem getF_put {p : List UInt8} (h : p.length ≤ 16777216) (r : List UInt8) : getF (frameL p ++ r) = .ok (p, r) := by
  have hb4 : ∀ s, (be4 s).length = 4 := fun _ => rfl
  unfold getF frameL
  rw [List.append_assoc, List.append_assoc, getV_put (by omega)]
  simp only
  rw [if_neg (by omega), if_neg (by rw [List.length_append, List.length_append, hb4]; omega)]
  obtain ⟨B, hB⟩ : ∃ B, B = be4 (cnext 0 (vb p.length ++ p)) := ⟨_, rfl⟩
  have hBl : B.length = 4 := by rw [hB]; rfl
  have hBv : be B = cnext 0 (vb p.length ++ p) := by rw [hB]; exact be_be4 (cnext_lt _ _)
  rw [← hB]
  have e1 : (vb p.length ++ (B ++ (p ++ r))).length - (B ++ (p ++ r)).length = (vb p.length).length := by rw [List.length_append]; omega
  have e2 : (B ++ (p ++ r)).drop 4 = p ++ r := List.drop_left' hBl
  have e3 : (B ++ (p ++ r)).take 4 = B := List.take_left' hBl
  have e4 : (B ++ (p ++ r)).drop (4 + p.length) = r := by rw [← List.drop_drop, e2]; exact List.drop_left' rfl
  rw [e1, e2, e3, e4, List.take_left' rfl, List.take_left' rfl, hBv, if_pos rfl]
/-- A frame that is one is one whatever stands behind it. -/
theorem getV_other : ∀ (l : List UInt8) (i n : Nat) (r r' : List UInt8), getV i l = .ok (n, r) → ∃ p, l = p ++ r ∧ getV i (p ++ r') = .ok (n, r')
  | [], i, n, r, r', h => by unfold getV at h; cases h
  | x :: l, i, n, r, r', h => by
    unfold getV at h
    split at h
    · cases h
    · rename_i h1
      split at h
      · cases h
      · rename_i h2
        split at h
        · rename_i h3
          injection h with h
          injection h with e1 e2
          refine ⟨[x], by rw [← e2]; rfl, ?_⟩
          show getV i (x :: r') = _
          unfold getV
          rw [if_neg h1, if_neg h2, if_pos h3, e1]
        · rename_i h3
          split at h
          · rename_i m r1 hg
            injection h with h
            injection h with e1 e2
            obtain ⟨p, hp, hq⟩ := getV_other l (i + 1) m r1 r' hg
            refine ⟨x :: p, by rw [hp, ← e2]; rfl, ?_⟩
            show getV i (x :: (p ++ r')) = _
            unfold getV
            rw [if_neg h1, if_neg h2, if_neg h3, hq]
            simp only
            rw [e1]
          · cases h
theorem getF_other {l p r : List UInt8} (h : getF l = .ok (p, r)) (r' : List UInt8) : ∃ f, l = f ++ r ∧ f ≠ [] ∧ getF (f ++ r') = .ok (p, r') := by
  unfold getF at h
  split at h
  · split at h <;> cases h
  · rename_i n r0 hg
    split at h
    · cases h
    · rename_i h1
      split at h
      · cases h
      · rename_i h2
        split at h
        · rename_i h3
          injection h with h
          injection h with e1 e2
          obtain ⟨v, hv, hq⟩ := getV_other l 0 n r0 (r0.take (4 + n) ++ r') hg
          have hvn : v ≠ [] := by
            obtain ⟨_, _, q, hq2, hqn⟩ := getV_lt l 0 n r0 hg
            rw [hv] at hq2
            rw [List.append_cancel_right hq2]
            exact hqn
          refine ⟨v ++ r0.take (4 + n), by rw [hv, ← e2, List.append_assoc, List.take_append_drop], by simp [hvn], ?_⟩
          unfold getF
          rw [List.append_assoc, hq]
          simp only
          have hl4 : (r0.take (4 + n)).length = 4 + n := by rw [List.length_take]; omega
          rw [if_neg h1, if_neg (by rw [List.length_append, hl4]; omega)]
          have e3 : (v ++ (r0.take (4 + n) ++ r')).length - (r0.take (4 + n) ++ r').length = v.length := by rw [List.length_append]; omega
          have e4 : l.length - r0.length = v.length := by rw [hv, List.length_append]; omega
          have e5 : ((r0.take (4 + n) ++ r').drop 4).take n = (r0.drop 4).take n := by
            rw [List.drop_append_of_le_length (by omega), List.take_append_of_le_length (by rw [List.length_drop]; omega), List.drop_take, List.take_take]
            congr 1
            omega
          have e6 : (r0.take (4 + n) ++ r').take 4 = r0.take 4 := by
            rw [List.take_append_of_le_length (by omega), List.take_take]
            congr 1
            omega
          have e7 : (r0.take (4 + n) ++ r').drop (4 + n) = r' := List.drop_left' hl4
          rw [e4, hv, List.take_left' rfl] at h3
          rw [e3, List.take_left' rfl, e5, e6, e7, if_pos h3, e1]
        · cases h
theorem getF_less {l p r : List UInt8} (h : getF l = .ok (p, r)) : r.length < l.length ∧ p.length ≤ 16777216 ∧ p.length ≤ l.length := by
  obtain ⟨f, hf, hne, _⟩ := getF_other h []
  have hpos := List.length_pos_iff.2 hne
  refine ⟨by rw [hf, List.length_append]; omega, ?_⟩
  unfold getF at h
  split at h
  · split at h <;> cases h
  · rename_i n r0 hg
    obtain ⟨_, _, q, hq, _⟩ := getV_lt l 0 n r0 hg
    split at h
    · cases h
    · split at h
      · cases h
      · split at h
        · injection h with h
          injection h with e1 e2
          rw [← e1, List.length_take, List.length_drop, hq, List.length_append]
          omega
        · cases h
theorem getF_code {l : List UInt8} {k : Nat} (h : getF l = .error k) : k = 40 ∨ k = 41 := by
  unfold getF at h
  split at h
  · split at h <;> (injection h with h; omega)
  · split at h
    · injection h with h; omega
    · split at h
      · injection h with h; omega
      · split at h
        · cases h
        · injection h with h; omega
end Go.Proofs.Ytohphanbnhiodaa

/- loggia/frame: Put. -/
namespace Go.Proofs.Ytohphanbnhiodaa
open Go.RowKit

theorem u8_mod (k : Nat) : B8 (UInt8.ofNat (k % 256)) = .int .u8 ((k % 256 : Nat) : Int) := by
  unfold B8
  rw [UInt8.toNat_ofNat']
  congr 2
  omega
theorem be4_B8 {s : Nat} (h : s < 4294967296) : [.int .u8 ((s : Int) / 16777216), .int .u8 ((s : Int) / 65536 % 256), .int .u8 ((s : Int) / 256 % 256), .int .u8 ((s : Int) % 256)] = (be4 s).map B8 := by
  unfold be4
  rw [List.map_cons, List.map_cons, List.map_cons, List.map_cons, List.map_nil, u8_mod, u8_mod, u8_mod, u8_mod]
  congr 2
  · omega
theorem wrap_u64' {m : Nat} (h : m < 18446744073709551616) : IntKind.u64.wrap (m : Int) = (m : Int) := by
  simp [IntKind.wrap, IntKind.bits, IntKind.signed]
  omega
/-- What Put answers. -/
def PutP (w : World) (l : List UInt8) (e : Ending) (w' : World) : Prop := ∃ A c, e = .returned (.tuple #[.slice A l.length c, .int .i64 0]) ∧ Buf w' w.heap.size 5 A l.length c (l.map B8) ∧ Ext w w'
set_option maxRecDepth 100000 in
set_option maxHeartbeats 2000000 in
theorem fput_any (A : Option Addr) (n c : Nat) (l : List UInt8) (B : Option Addr) (m d : Nat) (p : List UInt8) (w : World) (hl : In8 w A n c l) (hp : In8 w B m d p) (hn : n ≤ 900000000) (hm : m ≤ 16777216) :
    Calls Try.prog 36 #[.slice A n c, .slice B m d] w fun e w' => PutP w (l ++ frameL p) e w' := by
  have hpt := hide (put_any none 0 0 m [] w rfl (.inl rfl) (fun _ => rfl) (by omega) (by omega))
  have hml := hp.len
  have hnl := hl.len
  have h10 := vb_len10 (n := m) (by omega)
  have hwm := wrap_u64' (m := m) (by omega)
  have hm' : ¬ (16777216 : Int) < m := by omega
  obtain ⟨V, hV⟩ : ∃ V, V = vb m := ⟨_, rfl⟩
  rw [List.nil_append, ← hV] at hpt
  rw [← hV] at h10
  have hfr : l ++ frameL p = l ++ (V ++ (be4 (cnext 0 (V ++ p)) ++ p)) := by unfold frameL; rw [← hml, ← hV, List.append_assoc]
  have hlt := cnext_lt 0 (V ++ p)
  have hcs : csum 0 [V, p] = cnext 0 (V ++ p) := cnext_app V p
  obtain ⟨s, hs⟩ : ∃ s, s = cnext 0 (V ++ p) := ⟨_, rfl⟩
  rw [← hs] at hfr hlt hcs
  rw [hfr]
  obtain ⟨R, hR⟩ : ∃ R, R = l ++ (V ++ (be4 s ++ p)) := ⟨_, rfl⟩
  rw [← hR]
  replace hR := hide hR
  have hb4 := be4_B8 hlt
  replace hml := hide hml
  replace hnl := hide hnl
  replace hV := hide hV
  clear hs hfr
  go_enter Try.func36, Try.ntmps36
  go_wp2_with fail
  refine hpt.out.mono ?_
  rintro e w1 ⟨A1, c1, rfl, hb1, hE1⟩
  have hin1 := hb1.in8
  obtain ⟨w2, hw2⟩ : ∃ w2, w2 = w1.alloc (.cells #[.slice A1 V.length c1, .slice B m d] 31) := ⟨_, rfl⟩
  have hE2 : Ext w1 w2 := by rw [hw2]; exact (Ext.refl w1).alloc _
  have hr2 : Row w2 w1.heap.size 31 #[.slice A1 V.length c1, .slice B m d] := by rw [hw2]; exact Row.new w1 _ _
  have hsm := sum_any (some ⟨w1.heap.size, 0, none⟩) 2 2 [(A1, c1, V), (B, d, p)] w2 rfl (.inr ⟨w1.heap.size, 0, rfl, fun i v hv => by
      rw [Nat.zero_add]
      exact hr2.cell i (by rw [hml.out]; simpa using hv)⟩) (fun q hq => by
      rcases List.mem_cons.1 hq with rfl | hq
      · exact hin1.ext hE2
      · rw [List.mem_singleton.1 hq]
        have := (hp.ext hE1).ext hE2
        rw [hml.out] at this
        exact this) (fun q hq => by
      rcases List.mem_cons.1 hq with rfl | hq
      · simp only; omega
      · rw [List.mem_singleton.1 hq]; simp only; have := hml.out; omega) (by omega)
  rw [show ([(A1, c1, V), (B, d, p)].map fun p : Option Addr × Nat × List UInt8 => p.2.2) = [V, p] from rfl, hcs] at hsm
  replace hsm := hide hsm
  replace hw2 := hide hw2
  replace hb4 := hide hb4
  replace hin1 := hide hin1
  clear hb1 hcs hr2
  go_wp2_with fail
  rw [← hw2.out]
  refine hsm.out.mono ?_
  rintro e w3 ⟨rfl, hE3⟩
  go_wp2_with fail
  obtain ⟨g, hg⟩ : ∃ g, g = w3.heap.size := ⟨_, rfl⟩
  obtain ⟨w4, hw4⟩ : ∃ w4, w4 = w3.alloc (.cells #[.int .u8 ((s : Int) / 16777216), .int .u8 ((s : Int) / 65536 % 256), .int .u8 ((s : Int) / 256 % 256), .int .u8 ((s : Int) % 256)] 5) := ⟨_, rfl⟩
  have hE4 : Ext w3 w4 := by rw [hw4]; exact (Ext.refl w3).alloc _
  have hb : Buf w4 g 5 (some ⟨g, 0, none⟩) 4 4 ((be4 s).map B8) := by
    have h := buf_new w3 [.int .u8 ((s : Int) / 16777216), .int .u8 ((s : Int) / 65536 % 256), .int .u8 ((s : Int) / 256 % 256), .int .u8 ((s : Int) % 256)] 5 (by simp)
    rw [hw4, hg, ← hb4.out]
    exact h
  have hs4 : w4.heap.size = g + 1 := by rw [hw4, hg]; simp
  obtain ⟨w5, hw5⟩ : ∃ w5, w5 = w4.alloc (.cells #[.slice A n c, .slice A1 V.length c1, .slice (some ⟨g, 0, none⟩) 4 4, .slice B m d] 31) := ⟨_, rfl⟩
  have hE5 : Ext w4 w5 := by rw [hw5]; exact (Ext.refl w4).alloc _
  have hr5 : Row w5 (g + 1) 31 #[.slice A n c, .slice A1 V.length c1, .slice (some ⟨g, 0, none⟩) 4 4, .slice B m d] := by rw [hw5, ← hs4]; exact Row.new w4 _ _
  have hEw3 := ((hE1.trans hE2).trans hE3)
  have hcc := concat_any (some ⟨g + 1, 0, none⟩) 4 4 [(A, c, l), (A1, c1, V), (some ⟨g, 0, none⟩, 4, be4 s), (B, d, p)] w5 rfl (.inr ⟨g + 1, 0, rfl, fun i v hv => by
      rw [Nat.zero_add]
      refine hr5.cell i ?_
      have e4 : (be4 s).length = 4 := rfl
      rw [hml.out, hnl.out]
      simpa [e4] using hv⟩) (fun q hq => by
      have e4 : (be4 s).length = 4 := rfl
      simp only [List.mem_cons, List.not_mem_nil, or_false] at hq
      rcases hq with rfl | rfl | rfl | rfl
      · have := (hl.ext hEw3).ext (hE4.trans hE5)
        rw [hnl.out] at this
        exact this
      · exact hin1.out.ext ((hE2.trans hE3).trans (hE4.trans hE5))
      · exact hb.in8.ext hE5
      · have := (hp.ext hEw3).ext (hE4.trans hE5)
        rw [hml.out] at this
        exact this) (by
      have e4 : (be4 s).length = 4 := rfl
      unfold catL
      simp only [List.flatMap_cons, List.flatMap_nil, List.length_append, List.length_nil, e4]
      have := hml.out
      have := hnl.out
      omega) (by omega)
  have hcat : catL [(A, c, l), (A1, c1, V), (some ⟨g, 0, none⟩, 4, be4 s), (B, d, p)] = l ++ (V ++ (be4 s ++ p)) := by unfold catL; simp
  rw [hcat] at hcc
  rw [← hR.out] at hcc
  have hE05 := hEw3.trans (hE4.trans hE5)
  rw [hw5, hw4, hg] at hcc hE05
  replace hE05 := hide hE05
  refine hcc.mono ?_
  rintro e w6 ⟨A6, c6, rfl, hb6, hE6⟩
  replace hb6 := hide (hb6.lower hE05.out.size)
  have hE06 := hide (hE05.out.trans hE6)
  clear hE6 hcc hcat hw4 hw5 hs4 hg hr5 hb
  go_wp2_with fail
  go_ret2
  exact ⟨A6, c6, rfl, hb6.out, hE06.out⟩
end Go.Proofs.Ytohphanbnhiodaa

/- loggia/frame: Get. -/
namespace Go.Proofs.Ytohphanbnhiodaa
open Go.RowKit

theorem getV_code : ∀ (l : List UInt8) (i k : Nat), getV i l = .error k → k = 6 ∨ k = 20
  | [], i, k, h => by unfold getV at h; injection h with h; omega
  | x :: l, i, k, h => by
    unfold getV at h
    split at h
    · injection h with h; omega
    · split at h
      · injection h with h; omega
      · split at h
        · cases h
        · split at h
          · cases h
          · rename_i e hg
            injection h with h
            subst h
            exact getV_code l (i + 1) _ hg
/-- What a frame is told to be. -/
def GotF (w0 w : World) (res : Except Nat (List UInt8 × List UInt8)) (e : Ending) (w' : World) : Prop := Ext w w' ∧ match res with
  | .ok (p, r) => ∃ P cp A c, e = .returned (.tuple #[.slice P p.length cp, .slice A r.length c, .int .i64 0]) ∧ In8 w' P p.length cp p ∧ In8 w0 A r.length c r
  | .error k => e = .returned (.tuple #[.slice none 0 0, .slice none 0 0, .int .i64 k])
theorem be_snoc (l : List UInt8) (x : UInt8) : be (l ++ [x]) = be l * 256 + x.toNat := by
  unfold be
  rw [List.foldl_append]
  rfl
theorem be_fold : ∀ (l : List UInt8) (s k : Nat), s < 256 ^ k → l.foldl (fun s x => s * 256 + x.toNat) s < 256 ^ (k + l.length)
  | [], s, k, h => h
  | x :: l, s, k, h => by
    have hx := x.toNat_lt
    have h1 : s * 256 + x.toNat < 256 ^ (k + 1) := by rw [Nat.pow_succ]; omega
    have h2 := be_fold l (s * 256 + x.toNat) (k + 1) h1
    rw [List.foldl_cons, List.length_cons, show k + (l.length + 1) = k + 1 + l.length by omega]
    exact h2
theorem be_lt (l : List UInt8) : be l < 256 ^ l.length := by
  have h := be_fold l 0 0 (by decide)
  rw [Nat.zero_add] at h
  exact h
theorem GotF.no {w0 w w' : World} {res : Except Nat (List UInt8 × List UInt8)} {k : Nat} (hE : Ext w w') (h : res = .error k) : GotF w0 w res (.returned (.tuple #[.slice none 0 0, .slice none 0 0, .int .i64 k])) w' := by
  subst h
  exact ⟨hE, rfl⟩
set_option maxRecDepth 100000 in
set_option maxHeartbeats 4000000 in
theorem fget_any (A : Option Addr) (n c : Nat) (l : List UInt8) (w0 w : World) (h : In8 w0 A n c l) (hw : Ext w0 w) (hle : n ≤ 1000000000) :
    Calls Try.prog 27 #[.slice A n c] w fun e w' => GotF w0 w (getF l) e w' := by
  have hg := get_any A n c l w0 w h hw hle
  have hln := hide h.len
  obtain ⟨Z, hZ⟩ : ∃ Z, Z = getF l := ⟨_, rfl⟩
  rw [← hZ]
  unfold getF at hZ
  cases hv : getV 0 l with
  | error k =>
    rw [hv] at hg hZ
    simp only at hZ
    rcases getV_code l 0 k hv with rfl | rfl
    · rw [if_pos rfl] at hZ
      replace hZ := hide hZ
      replace hg := hide hg
      clear h hv
      go_enter Try.func27, Try.ntmps27
      go_wp2_with fail
      refine hg.out.mono ?_
      rintro e w1 ⟨hE1, rfl⟩
      go_wp2_with fail
      go_ret3
      exact GotF.no hE1 hZ.out
    · rw [if_neg (by omega)] at hZ
      replace hZ := hide hZ
      replace hg := hide hg
      clear h hv
      go_enter Try.func27, Try.ntmps27
      go_wp2_with fail
      refine hg.out.mono ?_
      rintro e w1 ⟨hE1, rfl⟩
      go_wp2_with fail
      go_ret3
      exact GotF.no hE1 hZ.out
  | ok p =>
    obtain ⟨m, r⟩ := p
    have hm64 := getV_lt64 hv
    have hrl := getV_less hv
    obtain ⟨hd, hhd, hhq⟩ := getV_other l 0 m r [] hv
    have hpre : l.length - r.length = hd.length := by rw [hhd, List.length_append]; omega
    rw [hv] at hg hZ
    simp only at hZ
    unfold Got at hg
    simp only at hg
    replace hg := hide hg
    clear hv hhq
    by_cases hbig : 16777216 < m
    · rw [if_pos hbig] at hZ
      replace hZ := hide hZ
      have hb' : (16777216 : Int) < m := by omega
      clear h
      go_enter Try.func27, Try.ntmps27
      go_wp2_with fail
      refine hg.out.mono ?_
      rintro e w1 ⟨hE1, A1, c1, rfl, hi1⟩
      go_wp2_with fail
      go_ret3
      exact GotF.no hE1 hZ.out
    · rw [if_neg hbig] at hZ
      have hb' : ¬ (16777216 : Int) < m := by omega
      have hwm : IntKind.i64.wrap (m : Int) = (m : Int) := by
        simp [IntKind.wrap, IntKind.bits, IntKind.signed]
        omega
      by_cases hsh : r.length < 4 + m
      · rw [if_pos hsh] at hZ
        replace hZ := hide hZ
        have hs' : (r.length : Int) < 4 + (m : Int) := by omega
        clear h
        go_enter Try.func27, Try.ntmps27
        go_wp2_with fail
        refine hg.out.mono ?_
        rintro e w1 ⟨hE1, A1, c1, rfl, hi1⟩
        go_wp2_with fail
        go_ret3
        exact GotF.no hE1 hZ.out
      · rw [if_neg hsh] at hZ
        have hs' : ¬ (r.length : Int) < 4 + (m : Int) := by omega
        obtain ⟨hhr, hhi⟩ := h.headk .i64 (k := l.length - r.length) (by have := hln.out; omega) (z := (n : Int) - (r.length : Int)) (by have := hln.out; omega)
        rw [hpre] at hhr hhi
        have hrn : r.length ≤ n := by have := hln.out; omega
        have hrn2 : r.length ≤ 1000000000 := by omega
        replace hZ := hide hZ
        replace hhi := hide hhi
        replace hpre := hide hpre
        replace hhd := hide hhd
        clear h hrl
        go_enter Try.func27, Try.ntmps27
        go_wp2_with fail
        refine hg.out.mono ?_
        rintro e w1 ⟨hE1, A1, c1, rfl, hi1⟩
        obtain ⟨h4r, h4i⟩ := hi1.headk .i64 (k := 4) (by omega) (z := 4) rfl
        obtain ⟨A2, c2, hpr, hpi⟩ := hi1.subk .i64 .i64 (fr := 4) (k := m) (by omega) (z0 := 4) (z := 4 + (m : Int)) rfl rfl
        obtain ⟨A3, c3, htr, hti⟩ := hi1.fromk .i64 (fr := 4 + m) (by omega) (z := 4 + (m : Int)) (by omega)
        replace h4i := hide h4i
        replace hpi := hide hpi
        replace hti := hide hti
        replace hi1 := hide hi1
        go_wp2_with fail
        go_loopw [7, 9, 43] (fun s7 _ s43 wr => ∃ (i v : Nat), s43 = .int .i64 (i : Int) ∧ i ≤ 4 ∧ s7 = .int .u32 (v : Int) ∧ v < 256 ^ i ∧ Hid (v = be (r.take i)) ∧ wr = w1) (fun _ _ s43 _ => 4 - (intOf s43).toNat)
        case atStart => exact ⟨0, 0, rfl, by omega, rfl, by decide, hide (by simp [be]), rfl⟩
        case round =>
          obtain ⟨i, v, rfl, hi, rfl, hv, hvb, rfl⟩ := hrel
          by_cases hi4 : i < 4
          · obtain ⟨x, hx⟩ : ∃ x, r[i]? = some x := ⟨_, List.getElem?_eq_getElem (by omega)⟩
            have htk : be (r.take (i + 1)) = v * 256 + x.toNat := by rw [take_one2 hx, be_snoc, hvb.out]
            have hx8 := x.toNat_lt
            have hpw : (256 : Nat) ^ i ≤ 256 ^ 3 := Nat.pow_le_pow_right (by omega) (by omega)
            have hv24 : v < 16777216 := by omega
            have hor : bits .or .u32 ((v : Int) * 256) (x.toNat : Int) = ((v * 256 + x.toNat : Nat) : Int) := by
              have h1 := u32_or_nat (v * 256) x.toNat (by omega) (by omega)
              have h2 := Nat.shiftLeft_add_eq_or_of_lt (show x.toNat < 2 ^ 8 by omega) v
              rw [Nat.shiftLeft_eq] at h2
              rw [show (2 : Nat) ^ 8 = 256 from rfl] at h2
              rw [h2, ← h1]
              simp
            have hnext : v * 256 + x.toNat < 256 ^ (i + 1) := by rw [Nat.pow_succ]; omega
            obtain ⟨g, o, hA1, hc⟩ := Cells.at_ (xs := (r.take 4).map B8) (h4i.out.bytes.ext (hw.trans hE1)) (by rw [List.length_map, List.length_take]; omega)
            have hcell := hc i (B8 x) (by rw [List.getElem?_map, List.getElem?_take, if_pos hi4, hx]; rfl)
            unfold B8 at hcell
            subst hA1
            replace htk := hide htk
            replace hnext := hide hnext
            obtain ⟨nx, hnx⟩ : ∃ nx, nx = v * 256 + x.toNat := ⟨_, rfl⟩
            rw [← hnx] at hor htk hnext
            replace hnx := hide hnx
            clear hx hc
            go_wp2_with fail
            refine ⟨⟨i + 1, nx, by go_num, by omega, rfl, hnext.out, hide htk.out.symm, trivial⟩, ?_⟩
            simp [intOf]
            omega
          · obtain rfl : i = 4 := by omega
            have hpl : ((r.drop 4).take m).length = m := by rw [List.length_take, List.length_drop]; omega
            have hhl : (l.take hd.length).length = hd.length := by rw [List.length_take, hhd.out, List.length_append]; omega
            have hdl : (r.drop (4 + m)).length = r.length - (4 + m) := List.length_drop
            have hE0 := hw.trans hE1
            have hpin := hpi.out.ext hE0
            obtain ⟨pl, hpld⟩ : ∃ pl, pl = (r.drop 4).take m := ⟨_, rfl⟩
            obtain ⟨hh, hhhd⟩ : ∃ hh, hh = l.take hd.length := ⟨_, rfl⟩
            rw [← hpld] at hpl hpin
            have hhi2 := hhi.out
            rw [← hhhd] at hhl hhi2
            have hcl := hide (clone_any A2 m c2 pl wr hpl.symm hpin.bytes hpin.nil_ (by omega))
            have hz2 := hZ.out
            rw [hpre.out, ← hhhd, ← hpld, ← hvb.out] at hz2
            replace hz2 := hide hz2
            replace hpld := hide hpld
            replace hhhd := hide hhhd
            replace hpl := hide hpl
            replace hhl := hide hhl
            replace hdl := hide hdl
            have hv32 : v < 4294967296 := hv
            clear hpin
            go_wp2_with fail
            refine hcl.out.mono ?_
            rintro e w3 ⟨P, cp, rfl, hb3, hE3⟩
            have hin3 := hb3.in8
            obtain ⟨w4, hw4⟩ : ∃ w4, w4 = w3.alloc (.cells #[.slice A hd.length c, .slice P m cp] 31) := ⟨_, rfl⟩
            have hE4 : Ext w3 w4 := by rw [hw4]; exact (Ext.refl w3).alloc _
            have hr4 : Row w4 w3.heap.size 31 #[.slice A hd.length c, .slice P m cp] := by rw [hw4]; exact Row.new w3 _ _
            have hsm := sum_any (some ⟨w3.heap.size, 0, none⟩) 2 2 [(A, c, hh), (P, cp, pl)] w4 rfl (.inr ⟨w3.heap.size, 0, rfl, fun i v hv => by
                rw [Nat.zero_add]
                refine hr4.cell i ?_
                have e1 := hhl.out
                have e2 := hpl.out
                simpa [e1, e2] using hv⟩) (fun q hq => by
                rcases List.mem_cons.1 hq with rfl | hq
                · have h := (hhi2.ext hE0).ext (hE3.trans hE4)
                  simp only
                  rw [hhl.out]
                  exact h
                · rw [List.mem_singleton.1 hq]
                  have h := hin3.ext hE4
                  simp only
                  rw [hpl.out]
                  exact h) (fun q hq => by
                rcases List.mem_cons.1 hq with rfl | hq
                · simp only; rw [hhl.out]; have := hln.out; have := hpre.out; omega
                · rw [List.mem_singleton.1 hq]; simp only; rw [hpl.out]; omega) (by omega)
            rw [show ([(A, c, hh), (P, cp, pl)].map fun p : Option Addr × Nat × List UInt8 => p.2.2) = [hh, pl] from rfl, show csum 0 [hh, pl] = cnext 0 (hh ++ pl) from cnext_app hh pl] at hsm
            obtain ⟨s, hs⟩ : ∃ s, s = cnext 0 (hh ++ pl) := ⟨_, rfl⟩
            have hz3 := hz2.out
            rw [← hs] at hsm hz3
            have hE14 := hide (hE1.trans (hE3.trans hE4))
            replace hsm := hide hsm
            replace hw4 := hide hw4
            replace hin3 := hide (hin3.ext hE4)
            replace hs := hide hs
            clear hb3 hr4 hE0 hhi2
            by_cases hsv : s = v
            · subst hsv
              rw [if_pos rfl] at hz3
              replace hz3 := hide hz3
              go_wp2_with fail
              rw [← hw4.out]
              refine hsm.out.mono ?_
              rintro e w5 ⟨rfl, hE5⟩
              have hE15 := hide (hE14.out.trans hE5)
              have hin5 := hide (hin3.out.ext hE5)
              go_wp2_with fail
              refine wp_region_text follows (by kernel_rfl) (by kernel_rfl) (fun K hK => ?_)
              go_wp2_with fail
              refine ⟨by kernel_rfl, ?_⟩
              go_wp2_with fail
              go_ret3
              rw [hz3.out]
              exact ⟨hE15.out.drew, P, cp, A3, c3, by rw [hpl.out, hdl.out]; rfl, by rw [hpl.out]; exact hin5.out.ext (Ext.refl w5).drew, by rw [hdl.out]; exact hti.out⟩
            · have hsv' : ¬ (s : Int) = v := by omega
              rw [if_neg hsv] at hz3
              replace hz3 := hide hz3
              go_wp2_with fail
              rw [← hw4.out]
              refine hsm.out.mono ?_
              rintro e w5 ⟨rfl, hE5⟩
              have hE15 := hide (hE14.out.trans hE5)
              go_wp2_with fail
              go_ret3
              exact GotF.no hE15.out hz3.out
end Go.Proofs.Ytohphanbnhiodaa

/- What the bytes of a file tell, plainly. -/
namespace Go.Proofs.Ytohphanbnhiodaa
open Go.RowKit

/-- May a batch that begins at q stand here? -/
def okN (nx : Option Int) (q : Int) : Prop := match nx with
  | none => True
  | some n => q = n
open Classical in
noncomputable def scanM : Nat → Option Int → List UInt8 → List Bt × Nat × Nat
  | 0, _, _ => ([], 0, 0)
  | k + 1, nx, b => if b = [] then ([], 0, 0) else match getF b with
    | .error e => ([], 0, e)
    | .ok (p, r) => match decB p with
      | none => ([], 0, 150)
      | some bt => if okN nx bt.seq then (bt :: (scanM k (some (bt.seq + bt.es.length)) r).1, b.length - r.length + (scanM k (some (bt.seq + bt.es.length)) r).2.1, (scanM k (some (bt.seq + bt.es.length)) r).2.2) else ([], 0, 150)
def aheadS (read : List Bt) (n : Nat) (x : List Bt × Nat × Nat) : List Bt × Nat × Nat := (read ++ x.1, n + x.2.1, x.2.2)
theorem aheadS_nil (x : List Bt × Nat × Nat) : aheadS [] 0 x = x := by
  obtain ⟨a, b, c⟩ := x
  simp [aheadS]
theorem scan_end {Z : List Bt × Nat × Nat} {read : List Bt} {n k : Nat} {nx : Option Int} (h : Z = aheadS read n (scanM k nx [])) : Z = (read, n, 0) := by
  cases k with
  | zero => rw [h]; unfold scanM aheadS; simp
  | succ k => rw [h]; unfold scanM aheadS; simp
section
variable {Z : List Bt × Nat × Nat} {read : List Bt} {n k : Nat} {nx : Option Int} {b : List UInt8} (h : Z = aheadS read n (scanM k nx b)) (hk : b.length ≤ k) (hb : b ≠ [])
include h hk hb
theorem scan_err {e : Nat} (hg : getF b = .error e) : Z = (read, n, e) := by
  have := List.length_pos_iff.2 hb
  obtain ⟨j, rfl⟩ : ∃ j, k = j + 1 := ⟨k - 1, by omega⟩
  rw [h]
  unfold scanM
  rw [if_neg hb, hg]
  unfold aheadS
  simp
theorem scan_dec {p r : List UInt8} (hg : getF b = .ok (p, r)) (hd : decB p = none) : Z = (read, n, 150) := by
  have := List.length_pos_iff.2 hb
  obtain ⟨j, rfl⟩ : ∃ j, k = j + 1 := ⟨k - 1, by omega⟩
  rw [h]
  unfold scanM
  rw [if_neg hb, hg]
  simp only
  rw [hd]
  unfold aheadS
  simp
theorem scan_seq {p r : List UInt8} {bt : Bt} (hg : getF b = .ok (p, r)) (hd : decB p = some bt) (hs : ¬ okN nx bt.seq) : Z = (read, n, 150) := by
  have := List.length_pos_iff.2 hb
  obtain ⟨j, rfl⟩ : ∃ j, k = j + 1 := ⟨k - 1, by omega⟩
  rw [h]
  unfold scanM
  rw [if_neg hb, hg]
  simp only
  rw [hd]
  simp only
  rw [if_neg hs]
  unfold aheadS
  simp
theorem scan_step {p r : List UInt8} {bt : Bt} (hg : getF b = .ok (p, r)) (hd : decB p = some bt) (hs : okN nx bt.seq) : Z = aheadS (read ++ [bt]) (n + (b.length - r.length)) (scanM (k - 1) (some (bt.seq + bt.es.length)) r) := by
  have := List.length_pos_iff.2 hb
  obtain ⟨j, rfl⟩ : ∃ j, k = j + 1 := ⟨k - 1, by omega⟩
  rw [h]
  conv => lhs; unfold scanM
  rw [if_neg hb, hg]
  simp only
  rw [hd]
  simp only
  rw [if_pos hs]
  unfold aheadS
  simp only [Nat.add_sub_cancel, List.append_assoc, List.singleton_append, Nat.add_assoc]
end
theorem getF_small {l p r : List UInt8} (h : getF l = .ok (p, r)) : p.length + r.length < l.length := by
  unfold getF at h
  split at h
  · split at h <;> cases h
  · rename_i n r0 hg
    have hl := getV_less hg
    split at h
    · cases h
    · split at h
      · cases h
      · split at h
        · injection h with h
          injection h with e1 e2
          rw [← e1, ← e2, List.length_take, List.length_drop, List.length_drop]
          omega
        · cases h
/-- A row of batches of a call's own, with their own events. -/
structure BtsOwn (w : World) (base : Nat) (A : Option Addr) (c : Nat) (l : List BtC) : Prop where
  own : w.ownsRow base 50 2 (.slice A l.length c) l.length (bcells l)
  each : ∀ x ∈ l, EvsOwn w base x.A x.c x.l ∧ x.l.length ≤ 64 ∧ 1 ≤ x.seq ∧ x.seq ≤ 1099511627776
theorem BtsOwn.nil (w : World) (base : Nat) : BtsOwn w base none 0 [] := ⟨⟨rfl, .inl ⟨rfl, rfl⟩⟩, nofun⟩
theorem BtsOwn.ext {w w' : World} {base c : Nat} {A : Option Addr} {l : List BtC} (h : BtsOwn w base A c l) (hE : Ext w w') : BtsOwn w' base A c l := ⟨hE.owns h.own, fun x hx => ⟨(h.each x hx).1.ext hE, (h.each x hx).2⟩⟩
theorem BtsOwn.ok {w : World} {base c : Nat} {A : Option Addr} {l : List BtC} (h : BtsOwn w base A c l) : BsOk w A l := ⟨Cells.of_own h.own, fun x hx => ⟨(h.each x hx).1.ok, by have := (h.each x hx).2; omega, by have := (h.each x hx).2; unfold I64ok'; omega⟩⟩
/-- What Scan answers. -/
def ScanP (w : World) (Z : List Bt × Nat × Nat) (e : Ending) (w' : World) : Prop := Ext w w' ∧ ∃ (l : List BtC) (A : Option Addr) (c : Nat), Z.1 = l.map BtC.bt ∧ e = .returned (.tuple #[.slice A l.length c, .int .i64 (Z.2.1 : Nat), .int .i64 (Z.2.2 : Nat)]) ∧ BtsOwn w' w.heap.size A c l
theorem ScanP.mk {w w' : World} {Z : List Bt × Nat × Nat} {l : List BtC} {A : Option Addr} {m c n k : Nat} (hE : Ext w w') (hZ : Z = (l.map BtC.bt, n, k)) (hm : m = l.length) (h : BtsOwn w' w.heap.size A c l) :
    ScanP w Z (.returned (.tuple #[.slice A m c, .int .i64 (n : Int), .int .i64 (k : Int)])) w' := by
  subst hZ hm
  exact ⟨hE, l, A, c, rfl, rfl, h⟩
set_option maxRecDepth 100000 in
theorem elemBt : Elem Try.prog 32 50 2 32 := ⟨Try.underlying32, ⟨_, _, rfl, rfl, rfl, rfl, rfl⟩, by omega, by omega⟩
end Go.Proofs.Ytohphanbnhiodaa

/- loggia/event: put, Encode. -/
namespace Go.Proofs.Ytohphanbnhiodaa
open Go.RowKit

/-- A row of bytes of the call's own, as a slice. -/
def Own8 (w : World) (base : Nat) (A : Option Addr) (n c : Nat) (l : List UInt8) : Prop := n = l.length ∧ Buf w base 5 A n c (l.map B8)
theorem Own8.nil_ {w : World} {base : Nat} {A : Option Addr} {n c : Nat} {l : List UInt8} (h : Own8 w base A n c l) : A = none → c = 0 := fun hA => by
  obtain ⟨_, _, _, h3⟩ := h
  rcases h3 with ⟨_, h3⟩ | ⟨g, cur, hB, _⟩
  · exact h3
  · rw [hA] at hB; cases hB
theorem NewB.own {w w0 w' : World} {l : List UInt8} {e : Ending} (h : NewB w l e w') (hb : w0.heap.size ≤ w.heap.size) : ∃ A c, e = .returned (.slice A l.length c) ∧ Own8 w' w0.heap.size A l.length c l ∧ Ext w w' := by
  obtain ⟨A, c, he, hb', hE⟩ := h
  exact ⟨A, c, he, ⟨rfl, hb'.lower hb⟩, hE⟩
theorem wrap_u64 {m : Nat} (h : m < 18446744073709551616) : IntKind.u64.wrap (m : Int) = (m : Int) := by
  simp [IntKind.wrap, IntKind.bits, IntKind.signed]
  omega
theorem putFs_take {fs : List Fd} {i : Nat} {f : Fd} (h : fs[i]? = some f) : putFs (fs.take (i + 1)) = putFs (fs.take i) ++ txL f.1 ++ txL f.2 := by
  unfold putFs
  rw [take_one2 h, List.flatMap_append]
  simp [putF]
theorem putFs_take_len {fs : List Fd} (h : ∀ f ∈ fs, f.1.length ≤ 32 ∧ f.2.length ≤ 4096) (i : Nat) : (putFs (fs.take i)).length ≤ 5000 * fs.length := by
  have h1 := putFs_len (fs := fs.take i) fun f hf => h f (List.mem_of_mem_take hf)
  have h2 := sizeFs_le (fs := fs.take i) fun f hf => h f (List.mem_of_mem_take hf)
  have h3 := List.length_take_le i fs
  have h4 : ∀ {gs : List Fd}, (∀ f ∈ gs, f.1.length ≤ 32 ∧ f.2.length ≤ 4096) → sizeFs gs ≤ 4128 * gs.length := by
    intro gs
    induction gs with
    | nil => intro _; simp [sizeFs]
    | cons f gs ih =>
      intro h
      have h1 := ih fun x hx => h x (by simp [hx])
      have hf := h f (by simp)
      have h5 : sizeFs (f :: gs) = f.1.length + f.2.length + sizeFs gs := by unfold sizeFs; rw [List.map_cons, List.sum_cons]; rfl
      rw [h5, List.length_cons]
      omega
  have h5 := h4 (gs := fs.take i) fun f hf => h f (List.mem_of_mem_take hf)
  have h6 : (fs.take i).length ≤ fs.length := by rw [List.length_take]; omega
  omega
set_option maxRecDepth 100000 in
set_option maxHeartbeats 4000000 in
theorem evput_any (A : Option Addr) (n c : Nat) (l : List UInt8) (e : Ev) (B : Option Addr) (d : Nat) (w : World) (hn : n = l.length) (hl : Bs w A l) (hz : A = none → c = 0) (hle : n ≤ 100000000) (h : e.Ok w B) (hk : checkE e.fs = 0) (ha : I64ok' e.at_) :
    Calls Try.prog 58 #[.slice A n c, e.val B d] w fun en w' => NewB w (l ++ putE e) en w' := by
  obtain ⟨h16, hfl⟩ := checkE_fs hk
  have hput : l ++ putE e = (l ++ vb (zig e.at_) ++ vb e.fs.length) ++ putFs (e.fs.take e.fs.length) := by unfold putE; rw [List.take_length]; simp
  rw [hput]
  obtain ⟨at_, fs⟩ := e
  obtain ⟨hc, _, _⟩ := h
  unfold Ev.val
  simp only at hc h16 hfl ha ⊢
  have htl := putFs_take_len hfl
  obtain ⟨m, hm⟩ : ∃ m, m = fs.length := ⟨_, rfl⟩
  rw [← hm] at h16 htl ⊢
  obtain ⟨W, hW⟩ : ∃ W, W = w.alloc (.cells #[.int .i64 at_, .slice B m d] 55) := ⟨_, rfl⟩
  have hEW : Ext w W := by rw [hW]; exact (Ext.refl w).alloc _
  have hr : Row W w.heap.size 55 #[.int .i64 at_, .slice B m d] := by rw [hW]; exact Row.new w _ _
  obtain ⟨b, hb⟩ : ∃ b, b = w.heap.size := ⟨_, rfl⟩
  rw [← hb] at hr
  have h10 := vb_le10 (zig_lt ha.1 ha.2)
  have h10b := vb_le10 (n := m) (by omega)
  obtain ⟨L1, hL1⟩ : ∃ L1, L1 = l ++ vb (zig at_) := ⟨_, rfl⟩
  obtain ⟨L2, hL2⟩ : ∃ L2, L2 = L1 ++ vb m := ⟨_, rfl⟩
  have hl1 : L1.length ≤ 100000010 := by rw [hL1, List.length_append]; omega
  have hl2 : L2.length ≤ 100000020 := by rw [hL2, List.length_append]; omega
  rw [← hL1, ← hL2]
  have hS0 : W.cell? ⟨b, 0, none⟩ = some (.int .i64 at_) ∧ W.cell? ⟨b, 1, none⟩ = some (.slice B m d) ∧ Ext W W := ⟨hr.cell 0 rfl, hr.cell 1 rfl, Ext.refl W⟩
  have hS1 : W.drew.cell? ⟨b, 0, none⟩ = some (.int .i64 at_) ∧ W.drew.cell? ⟨b, 1, none⟩ = some (.slice B m d) ∧ Ext W W.drew := ⟨hr.cell 0 rfl, hr.cell 1 rfl, (Ext.refl W).drew⟩
  have hpi : ∀ x, (x.cell? ⟨b, 0, none⟩ = some (.int .i64 at_) ∧ x.cell? ⟨b, 1, none⟩ = some (.slice B m d) ∧ Ext W x) → Calls Try.prog 77 #[.slice A n c, .int .i64 at_] x fun e y => ∃ A1 c1, e = .returned (.slice A1 L1.length c1) ∧ Own8 y w.heap.size A1 L1.length c1 L1 ∧ (y.cell? ⟨b, 0, none⟩ = some (.int .i64 at_) ∧ y.cell? ⟨b, 1, none⟩ = some (.slice B m d) ∧ Ext W y) := fun x ⟨h0, h1, hE⟩ =>
    (putInt_any A n c at_ l x hn (hl.ext (hEW.trans hE)) hz (by omega) ha.1 ha.2).mono fun e y hy => by
      obtain ⟨A1, c1, he, hb1, hEy⟩ := NewB.own hy (hEW.trans hE).size
      rw [← hL1] at he hb1
      exact ⟨A1, c1, he, hb1, hEy.cell h0, hEy.cell h1, hE.trans hEy⟩
  have hpu : ∀ x A1 c1, Own8 x w.heap.size A1 L1.length c1 L1 → (x.cell? ⟨b, 0, none⟩ = some (.int .i64 at_) ∧ x.cell? ⟨b, 1, none⟩ = some (.slice B m d) ∧ Ext W x) → Calls Try.prog 57 #[.slice A1 L1.length c1, .int .u64 (m : Int)] x fun e y => ∃ A2 c2, e = .returned (.slice A2 L2.length c2) ∧ Own8 y w.heap.size A2 L2.length c2 L2 ∧ (y.cell? ⟨b, 0, none⟩ = some (.int .i64 at_) ∧ y.cell? ⟨b, 1, none⟩ = some (.slice B m d) ∧ Ext W y) := fun x A1 c1 hb1 ⟨h0, h1, hE⟩ =>
    (put_any A1 L1.length c1 m L1 x rfl hb1.2.cells hb1.nil_ (by omega) (by omega)).mono fun e y hy => by
      obtain ⟨A2, c2, he, hb2, hEy⟩ := NewB.own hy (hEW.trans hE).size
      rw [← hL2] at he hb2
      exact ⟨A2, c2, he, hb2, hEy.cell h0, hEy.cell h1, hE.trans hEy⟩
  replace hpi := hide hpi
  replace hpu := hide hpu
  replace hS0 := hide hS0
  replace hS1 := hide hS1
  have hwm := wrap_u64 (m := m) (by omega)
  replace hW := hide hW
  replace hm := hide hm
  replace hfl := hide hfl
  replace htl := hide htl
  replace hb := hide hb
  clear hL1 hL2 hput h10 h10b hl hz hn
  go_enter Try.func58, Try.ntmps58
  go_wp2_with fail
  rw [← hW.out, ← hb.out]
  refine wp_region_held_drew (S := fun x => x.cell? ⟨b, 0, none⟩ = some (.int .i64 at_) ∧ x.cell? ⟨b, 1, none⟩ = some (.slice B m d) ∧ Ext W x) (by kernel_rfl) hS1.out (fun hHeld => ?_)
  refine wpAnyH_take (i := 0) (v := .slice A n c) rfl (by kernel_rfl) (by kernel_rfl) (by kernel_rfl) (fun _ _ _ h => h) (Or.inl ⟨by rfl, ?_⟩) (by assumption) ?_
  · intro w' hSw
    (try dsimp only at hSw)
    obtain ⟨z1, z2, z3⟩ := hSw
    go_simp
    try with_reducible rfl
    all_goals omega
  (try simp only [Act.put, List.setIfInBounds_toArray, List.set_cons_zero, List.set_cons_succ, List.getElem_toArray, List.getElem_cons_zero, List.getElem_cons_succ])
  refine wpAnyH_take (i := 1) (v := .pointer (some ⟨b, 0, none⟩)) rfl (by kernel_rfl) (by kernel_rfl) (by kernel_rfl) (fun _ _ _ h => h) (Or.inl ⟨by rfl, ?_⟩) (by assumption) ?_
  · intro w' hSw
    (try dsimp only at hSw)
    obtain ⟨z1, z2, z3⟩ := hSw
    go_simp
    try with_reducible rfl
    all_goals omega
  (try simp only [Act.put, List.setIfInBounds_toArray, List.set_cons_zero, List.set_cons_succ, List.getElem_toArray, List.getElem_cons_zero, List.getElem_cons_succ])
  refine wpAnyH_take (i := 2) (v := .int .i64 at_) rfl (by kernel_rfl) (by kernel_rfl) (by kernel_rfl) (fun _ _ _ h => h) (Or.inl ⟨by rfl, ?_⟩) (by assumption) ?_
  · intro w' hSw
    (try dsimp only at hSw)
    obtain ⟨z1, z2, z3⟩ := hSw
    go_simp
    try with_reducible rfl
    all_goals omega
  (try simp only [Act.put, List.setIfInBounds_toArray, List.set_cons_zero, List.set_cons_succ, List.getElem_toArray, List.getElem_cons_zero, List.getElem_cons_succ])
  refine wpAnyH_take (i := 4) (v := .pointer (some ⟨b, 1, none⟩)) rfl (by kernel_rfl) (by kernel_rfl) (by kernel_rfl) (fun _ _ _ h => h) (Or.inl ⟨by rfl, ?_⟩) (by assumption) ?_
  · intro w' hSw
    (try dsimp only at hSw)
    obtain ⟨z1, z2, z3⟩ := hSw
    go_simp
    try with_reducible rfl
    all_goals omega
  (try simp only [Act.put, List.setIfInBounds_toArray, List.set_cons_zero, List.set_cons_succ, List.getElem_toArray, List.getElem_cons_zero, List.getElem_cons_succ])
  refine wpAnyH_take (i := 5) (v := .slice B m d) rfl (by kernel_rfl) (by kernel_rfl) (by kernel_rfl) (fun _ _ _ h => h) (Or.inl ⟨by rfl, ?_⟩) (by assumption) ?_
  · intro w' hSw
    (try dsimp only at hSw)
    obtain ⟨z1, z2, z3⟩ := hSw
    go_simp
    try with_reducible rfl
    all_goals omega
  (try simp only [Act.put, List.setIfInBounds_toArray, List.set_cons_zero, List.set_cons_succ, List.getElem_toArray, List.getElem_cons_zero, List.getElem_cons_succ])
  refine wpAnyH_take (i := 6) (v := .int .i64 (m : Int)) rfl (by kernel_rfl) (by kernel_rfl) (by kernel_rfl) (fun _ _ _ h => h) (Or.inl ⟨by rfl, ?_⟩) (by assumption) ?_
  · intro w' hSw
    (try dsimp only at hSw)
    obtain ⟨z1, z2, z3⟩ := hSw
    go_simp
    try with_reducible rfl
    all_goals omega
  (try simp only [Act.put, List.setIfInBounds_toArray, List.set_cons_zero, List.set_cons_succ, List.getElem_toArray, List.getElem_cons_zero, List.getElem_cons_succ])
  refine wpAnyH_take (i := 7) (v := .int .u64 (m : Int)) rfl (by kernel_rfl) (by kernel_rfl) (by kernel_rfl) (fun _ _ _ h => h) (Or.inl ⟨by rfl, ?_⟩) (by assumption) ?_
  · intro w' hSw
    (try dsimp only at hSw)
    obtain ⟨z1, z2, z3⟩ := hSw
    go_simp
    try with_reducible rfl
    all_goals omega
  (try simp only [Act.put, List.setIfInBounds_toArray, List.set_cons_zero, List.set_cons_succ, List.getElem_toArray, List.getElem_cons_zero, List.getElem_cons_succ])
  refine wpAnyH_ready (rs := [3]) (by kernel_rfl) (by simp) ?_
  refine AllReadyH.cons rfl (fun K hK => ?_) AllReadyH.nil
  (first | go_at_call 77 | (go_simp; go_at_call 77)); (refine (hpi.out _ ‹_›).mono ?_; rintro en w3 ⟨A1, c1, rfl, hb1, hSc⟩)
  refine hK.out _ _ ?_ (fun hHeld1 => ?_)
  · exact hSc
  clear hK K
  (try simp only [Act.put, List.setIfInBounds_toArray, List.set_cons_zero, List.set_cons_succ, List.getElem_toArray, List.getElem_cons_zero, List.getElem_cons_succ])
  refine wpAnyH_ready (rs := [8]) (by kernel_rfl) (by simp) ?_
  refine AllReadyH.cons rfl (fun K hK => ?_) AllReadyH.nil
  (first | go_at_call 57 | (go_simp; go_at_call 57)); (refine (hpu.out _ _ _ hb1 hSc).mono ?_; rintro en w4 ⟨A2, c2, rfl, hb2, hSc2⟩)
  refine hK.out _ _ ?_ (fun hHeld2 => ?_)
  · exact hSc2
  clear hK K
  (try simp only [Act.put, List.setIfInBounds_toArray, List.set_cons_zero, List.set_cons_succ, List.getElem_toArray, List.getElem_cons_zero, List.getElem_cons_succ])
  refine wpAnyH_take (i := 9) (v := .slice A2 L2.length c2) rfl (by kernel_rfl) (by kernel_rfl) (by kernel_rfl) (fun _ _ _ h => h) (Or.inl ⟨by rfl, ?_⟩) (by assumption) ?_
  · intro w' hSw
    (try dsimp only at hSw)
    obtain ⟨z1, z2, z3⟩ := hSw
    go_simp
    try with_reducible rfl
    all_goals omega
  (try simp only [Act.put, List.setIfInBounds_toArray, List.set_cons_zero, List.set_cons_succ, List.getElem_toArray, List.getElem_cons_zero, List.getElem_cons_succ])
  refine wpAnyH_done (by kernel_rfl) ?_ _
  clear hHeld hHeld1 hHeld2 hSc hb1 hpi hpu hS0 hS1
  have hEW4 : Ext W w4 := hSc2.2.2
  have y1 : w4.cell? ⟨b, 1, none⟩ = some (.slice B m d) := hSc2.2.1
  have hsz4 : w.heap.size ≤ w4.heap.size := (hEW.trans hEW4).size
  replace hb2 := hide hb2
  replace hEW4 := hide hEW4
  clear hSc2
  go_wp2_with fail
  go_loopw [0, 19] (fun s0 s19 wr => ∃ (i n4 c4 : Nat) (A4 : Option Addr) (L : List UInt8), s19 = .int .i64 (i : Int) ∧ s0 = .slice A4 n4 c4 ∧ i ≤ m ∧ n4 ≤ 100100000 ∧ Hid (L = L2 ++ putFs (fs.take i)) ∧ Hid (Own8 wr w.heap.size A4 n4 c4 L) ∧ Hid (Ext w4 wr)) (fun _ s19 _ => m - (intOf s19).toNat)
  case atStart => exact ⟨0, L2.length, c2, A2, L2, rfl, rfl, by omega, by omega, hide (by simp [putFs]), hb2, hide (Ext.refl w4)⟩
  case round =>
    obtain ⟨i, n4, c4, A4, L, rfl, rfl, hi, hn4, hL, hb4, hE⟩ := hrel
    by_cases him : i < m
    · obtain ⟨f, hf⟩ : ∃ f, fs[i]? = some f := ⟨_, List.getElem?_eq_getElem (by rw [← hm.out]; exact him)⟩
      obtain ⟨g, o, rfl, k0, k1⟩ := fcells_at (((hc.ext hEW).ext hEW4.out).ext hE.out) hf
      have hl1 := hfl.out f (List.mem_of_getElem? hf)
      have htk := putFs_take hf
      obtain ⟨nm, tx⟩ := f
      unfold strV at k0 k1
      simp only at k0 k1 hl1 htk
      obtain ⟨hlf1, hlf2⟩ := hl1
      obtain ⟨g2, hg2⟩ : ∃ g2, g2 = wr.heap.size := ⟨_, rfl⟩
      obtain ⟨Wf, hWf⟩ : ∃ Wf, Wf = wr.alloc (.cells #[.string ⟨nm.toArray⟩, .string ⟨tx.toArray⟩] 52) := ⟨_, rfl⟩
      have hEf : Ext wr Wf := by rw [hWf]; exact (Ext.refl wr).alloc _
      have hrf : Row Wf g2 52 #[.string ⟨nm.toArray⟩, .string ⟨tx.toArray⟩] := by rw [hWf, hg2]; exact Row.new wr _ _
      obtain ⟨L5, hL5⟩ : ∃ L5, L5 = L ++ txL nm := ⟨_, rfl⟩
      obtain ⟨L6, hL6⟩ : ∃ L6, L6 = L5 ++ txL tx := ⟨_, rfl⟩
      have hLl : L.length = n4 := hb4.out.1.symm
      have ht1 := txL_len (s := nm) (by omega)
      have ht2 := txL_len (s := tx) (by omega)
      have hl5 : L5.length ≤ 100200000 := by rw [hL5, List.length_append]; omega
      have hL62 : Hid (L6 = L2 ++ putFs (fs.take (i + 1))) := hide (by rw [hL6, hL5, hL.out, htk]; simp)
      have hl6 : L6.length ≤ 100100000 := by
        rw [hL62.out, List.length_append]
        have := htl.out (i + 1)
        omega
      have hEb : Ext w Wf := (hEW.trans hEW4.out).trans (hE.out.trans hEf)
      have hT1 : Wf.drew.cell? ⟨g2, 0, none⟩ = some (.string ⟨nm.toArray⟩) ∧ Wf.drew.cell? ⟨g2, 1, none⟩ = some (.string ⟨tx.toArray⟩) ∧ Ext Wf Wf.drew := ⟨hrf.cell 0 rfl, hrf.cell 1 rfl, (Ext.refl Wf).drew⟩
      have hb4f : Buf Wf w.heap.size 5 A4 n4 c4 (L.map B8) := hb4.out.2.ext hEf
      have hp1 : ∀ x, (x.cell? ⟨g2, 0, none⟩ = some (.string ⟨nm.toArray⟩) ∧ x.cell? ⟨g2, 1, none⟩ = some (.string ⟨tx.toArray⟩) ∧ Ext Wf x) → Calls Try.prog 78 #[.slice A4 n4 c4, .string ⟨nm.toArray⟩] x fun e y => ∃ A5 c5, e = .returned (.slice A5 L5.length c5) ∧ Own8 y w.heap.size A5 L5.length c5 L5 ∧ (y.cell? ⟨g2, 0, none⟩ = some (.string ⟨nm.toArray⟩) ∧ y.cell? ⟨g2, 1, none⟩ = some (.string ⟨tx.toArray⟩) ∧ Ext Wf y) := fun x ⟨h0, h1, hE⟩ =>
        (putText_any A4 n4 c4 L nm x hLl.symm (hb4f.cells.ext hE) hb4.out.nil_ (by omega) (by omega)).mono fun e y hy => by
          obtain ⟨A1, c1, he, hb1, hEy⟩ := NewB.own hy (hEb.trans hE).size
          rw [← hL5] at he hb1
          exact ⟨A1, c1, he, hb1, hEy.cell h0, hEy.cell h1, hE.trans hEy⟩
      have hp2 : ∀ x A5 c5, Own8 x w.heap.size A5 L5.length c5 L5 → (x.cell? ⟨g2, 0, none⟩ = some (.string ⟨nm.toArray⟩) ∧ x.cell? ⟨g2, 1, none⟩ = some (.string ⟨tx.toArray⟩) ∧ Ext Wf x) → Calls Try.prog 78 #[.slice A5 L5.length c5, .string ⟨tx.toArray⟩] x fun e y => ∃ A6 c6, e = .returned (.slice A6 L6.length c6) ∧ Own8 y w.heap.size A6 L6.length c6 L6 ∧ (y.cell? ⟨g2, 0, none⟩ = some (.string ⟨nm.toArray⟩) ∧ y.cell? ⟨g2, 1, none⟩ = some (.string ⟨tx.toArray⟩) ∧ Ext Wf y) := fun x A5 c5 hb1 ⟨h0, h1, hE⟩ =>
        (putText_any A5 L5.length c5 L5 tx x rfl hb1.2.cells hb1.nil_ (by omega) (by omega)).mono fun e y hy => by
          obtain ⟨A2, c2, he, hb2, hEy⟩ := NewB.own hy (hEb.trans hE).size
          rw [← hL6] at he hb2
          exact ⟨A2, c2, he, hb2, hEy.cell h0, hEy.cell h1, hE.trans hEy⟩
      have hi0 : (0 : Int) ≤ i := by omega
      have hi1 : (i : Int) < m := by omega
      have hEwf := hide (hE.out.trans hEf)
      replace hp1 := hide hp1
      replace hp2 := hide hp2
      replace hT1 := hide hT1
      replace hg2 := hide hg2
      replace hLl := hide hLl
      replace hWf := hide hWf
      clear hf hL5 hL6 htk ht1 ht2 hrf hEb hb4f
      go_wp2_with fail
      rw [← hWf.out, ← hg2.out]
      refine wp_region_held_drew (S := fun x => x.cell? ⟨g2, 0, none⟩ = some (.string ⟨nm.toArray⟩) ∧ x.cell? ⟨g2, 1, none⟩ = some (.string ⟨tx.toArray⟩) ∧ Ext Wf x) (by kernel_rfl) hT1.out (fun hHeld => ?_)
      refine wpAnyH_take (i := 0) (v := .slice A4 n4 c4) rfl (by kernel_rfl) (by kernel_rfl) (by kernel_rfl) (fun _ _ _ h => h) (Or.inl ⟨by rfl, ?_⟩) (by assumption) ?_
      · intro w' hSw
        (try dsimp only at hSw)
        obtain ⟨z1, z2, z3⟩ := hSw
        go_simp
        try with_reducible rfl
        all_goals omega
      (try simp only [Act.put, List.setIfInBounds_toArray, List.set_cons_zero, List.set_cons_succ, List.getElem_toArray, List.getElem_cons_zero, List.getElem_cons_succ])
      refine wpAnyH_take (i := 1) (v := .pointer (some ⟨g2, 0, none⟩)) rfl (by kernel_rfl) (by kernel_rfl) (by kernel_rfl) (fun _ _ _ h => h) (Or.inl ⟨by rfl, ?_⟩) (by assumption) ?_
      · intro w' hSw
        (try dsimp only at hSw)
        obtain ⟨z1, z2, z3⟩ := hSw
        go_simp
        try with_reducible rfl
        all_goals omega
      (try simp only [Act.put, List.setIfInBounds_toArray, List.set_cons_zero, List.set_cons_succ, List.getElem_toArray, List.getElem_cons_zero, List.getElem_cons_succ])
      refine wpAnyH_take (i := 2) (v := .string ⟨nm.toArray⟩) rfl (by kernel_rfl) (by kernel_rfl) (by kernel_rfl) (fun _ _ _ h => h) (Or.inl ⟨by rfl, ?_⟩) (by assumption) ?_
      · intro w' hSw
        (try dsimp only at hSw)
        obtain ⟨z1, z2, z3⟩ := hSw
        go_simp
        try with_reducible rfl
        all_goals omega
      (try simp only [Act.put, List.setIfInBounds_toArray, List.set_cons_zero, List.set_cons_succ, List.getElem_toArray, List.getElem_cons_zero, List.getElem_cons_succ])
      refine wpAnyH_take (i := 4) (v := .pointer (some ⟨g2, 1, none⟩)) rfl (by kernel_rfl) (by kernel_rfl) (by kernel_rfl) (fun _ _ _ h => h) (Or.inl ⟨by rfl, ?_⟩) (by assumption) ?_
      · intro w' hSw
        (try dsimp only at hSw)
        obtain ⟨z1, z2, z3⟩ := hSw
        go_simp
        try with_reducible rfl
        all_goals omega
      (try simp only [Act.put, List.setIfInBounds_toArray, List.set_cons_zero, List.set_cons_succ, List.getElem_toArray, List.getElem_cons_zero, List.getElem_cons_succ])
      refine wpAnyH_take (i := 5) (v := .string ⟨tx.toArray⟩) rfl (by kernel_rfl) (by kernel_rfl) (by kernel_rfl) (fun _ _ _ h => h) (Or.inl ⟨by rfl, ?_⟩) (by assumption) ?_
      · intro w' hSw
        (try dsimp only at hSw)
        obtain ⟨z1, z2, z3⟩ := hSw
        go_simp
        try with_reducible rfl
        all_goals omega
      (try simp only [Act.put, List.setIfInBounds_toArray, List.set_cons_zero, List.set_cons_succ, List.getElem_toArray, List.getElem_cons_zero, List.getElem_cons_succ])
      refine wpAnyH_ready (rs := [3]) (by kernel_rfl) (by simp) ?_
      refine AllReadyH.cons rfl (fun K hK => ?_) AllReadyH.nil
      (first | go_at_call 78 | (go_simp; go_at_call 78)); (refine (hp1.out _ ‹_›).mono ?_; rintro en w5 ⟨A5, c5, rfl, hb5, hSc⟩)
      refine hK.out _ _ ?_ (fun hHeld1 => ?_)
      · exact hSc
      clear hK K
      (try simp only [Act.put, List.setIfInBounds_toArray, List.set_cons_zero, List.set_cons_succ, List.getElem_toArray, List.getElem_cons_zero, List.getElem_cons_succ])
      refine wpAnyH_ready (rs := [6]) (by kernel_rfl) (by simp) ?_
      refine AllReadyH.cons rfl (fun K hK => ?_) AllReadyH.nil
      (first | go_at_call 78 | (go_simp; go_at_call 78)); (refine (hp2.out _ _ _ hb5 hSc).mono ?_; rintro en w6 ⟨A6, c6, rfl, hb6, hSc2⟩)
      refine hK.out _ _ ?_ (fun hHeld2 => ?_)
      · exact hSc2
      clear hK K
      (try simp only [Act.put, List.setIfInBounds_toArray, List.set_cons_zero, List.set_cons_succ, List.getElem_toArray, List.getElem_cons_zero, List.getElem_cons_succ])
      refine wpAnyH_take (i := 7) (v := .slice A6 L6.length c6) rfl (by kernel_rfl) (by kernel_rfl) (by kernel_rfl) (fun _ _ _ h => h) (Or.inl ⟨by rfl, ?_⟩) (by assumption) ?_
      · intro w' hSw
        (try dsimp only at hSw)
        obtain ⟨z1, z2, z3⟩ := hSw
        go_simp
        try with_reducible rfl
        all_goals omega
      (try simp only [Act.put, List.setIfInBounds_toArray, List.set_cons_zero, List.set_cons_succ, List.getElem_toArray, List.getElem_cons_zero, List.getElem_cons_succ])
      refine wpAnyH_done (by kernel_rfl) ?_ _
      have hE6 := hide (hEwf.out.trans hSc2.2.2)
      replace hb6 := hide hb6
      clear hHeld hHeld1 hHeld2 hSc hSc2 hb5
      go_wp2_with fail
      go_roundw
      case rel => exact ⟨i + 1, L6.length, c6, A6, L6, by go_num, rfl, by omega, by omega, hL62, hb6, hE6⟩
      case measure => simp [intOf]; omega
    · obtain rfl : i = m := by omega
      obtain ⟨hbl, hbb⟩ := hb4.out
      have hEfin := hide ((hEW.trans hEW4.out).trans hE.out)
      have hfin : NewB w (L2 ++ putFs (fs.take i)) (.returned (.slice A4 n4 c4)) wr := ⟨A4, c4, by rw [← hL.out, hbl], by rw [← hL.out, ← hbl]; exact hbb, hEfin.out⟩
      replace hfin := hide hfin
      clear hbb hbl
      go_wp2_with fail
      go_ret
      exact hfin.out
end Go.Proofs.Ytohphanbnhiodaa

