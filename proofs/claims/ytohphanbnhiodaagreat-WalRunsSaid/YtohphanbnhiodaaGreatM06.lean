/- loggiaref10: SameBatch; loggiaref15: SameBatches, at alike ones. -/
import Derived.Test.YtohphanbnhiodaaGreatM05
import Derived.Test.YtohphanbnhiodaaGreatM01
import Derived.Test.YtohphanbnhiodaaGreatM04
import Derived.Lib.AppendZeros
import Derived.Test.YtohphanbnhiodaaGreatM02
set_option linter.unusedSimpArgs false
set_option linter.unusedVariables false
namespace Go.Proofs.YtohphanbnhiodaaGreat
open Go.RowKit

def bcells (l : List BtC) : List Value := l.flatMap BtC.cells
theorem bcells_len (l : List BtC) : (bcells l).length = l.length * 2 := flat_len_of (cellsA := BtC.cells) (k := 2) (fun _ => rfl) l
theorem bcells_snoc (l : List BtC) (x : BtC) : bcells (l ++ [x]) = bcells l ++ x.cells := by
  unfold bcells
  rw [List.flatMap_append]
  simp
theorem bcells_at {w : World} {A : Option Addr} {l : List BtC} (h : Cells w A (bcells l)) {i : Nat} {x : BtC} (hx : l[i]? = some x) : ∃ g o, A = some ⟨g, o, none⟩ ∧ w.cell? ⟨g, o + i * 2, none⟩ = some (.int .i64 x.seq) ∧ w.cell? ⟨g, o + i * 2 + 1, none⟩ = some (.slice x.A x.l.length x.c) := by
  have hi := (List.getElem?_eq_some_iff.1 hx).1
  obtain ⟨g, o, hA, hc⟩ := h.at_ (by rw [bcells_len]; omega)
  refine ⟨g, o, hA, ?_, ?_⟩
  · exact hc (i * 2 + 0) _ (by unfold bcells; rw [flat_get_of (cellsA := BtC.cells) (k := 2) (fun _ => rfl) l i x 0 hx (by omega)]; rfl)
  · rw [Nat.add_assoc]
    exact hc (i * 2 + 1) _ (by unfold bcells; rw [flat_get_of (cellsA := BtC.cells) (k := 2) (fun _ => rfl) l i x 1 hx (by omega)]; rfl)
/-- A row of batches lies at A. -/
structure BsOk (w : World) (A : Option Addr) (l : List BtC) : Prop where
  cells : Cells w A (bcells l)
  each : ∀ x ∈ l, x.Ok w
theorem BsOk.ext {w w1 : World} {A : Option Addr} {l : List BtC} (h : BsOk w A l) (hE : Ext w w1) : BsOk w1 A l := ⟨h.cells.ext hE, fun x hx => (h.each x hx).ext hE⟩
theorem evs_alike {l m : List EvC} {i : Nat} {x y : EvC} (h : l.map (·.e) = m.map (·.e)) (hx : l[i]? = some x) (hy : m[i]? = some y) : x.e = y.e := by
  have h1 : (l.map (·.e))[i]? = some x.e := by rw [List.getElem?_map, hx]; rfl
  have h2 : (m.map (·.e))[i]? = some y.e := by rw [List.getElem?_map, hy]; rfl
  rw [h, h2] at h1
  exact (Option.some.inj h1).symm
set_option maxRecDepth 100000 in
set_option maxHeartbeats 4000000 in
theorem samebatch_any (b1 b2 : BtC) (w : World) (h1 : b1.Ok w) (h2 : b2.Ok w) (hb : b1.bt = b2.bt) :
    Calls Tryz.prog 47 #[b1.val, b2.val] w fun en w' => en = .returned (.bool true) ∧ Ext w w' := by
  obtain ⟨seq, l, A, c⟩ := b1
  obtain ⟨seq2, m, B, c2⟩ := b2
  unfold BtC.bt at hb
  injection hb with hsq hlm
  simp only at hsq hlm
  subst hsq
  obtain ⟨hl, hmany, _⟩ := h1
  obtain ⟨hm, _, _⟩ := h2
  unfold BtC.val
  simp only at hl hm hmany ⊢
  have hlen : m.length = l.length := by
    have := congrArg List.length hlm
    rw [List.length_map, List.length_map] at this
    exact this.symm
  obtain ⟨n, hn⟩ : ∃ n, n = l.length := ⟨_, rfl⟩
  rw [hlen, ← hn]
  rw [← hn] at hmany hlen
  obtain ⟨W, hW⟩ : ∃ W, W = (w.alloc (.cells #[.int .i64 seq, .slice A n c] 80)).alloc (.cells #[.int .i64 seq, .slice B n c2] 80) := ⟨_, rfl⟩
  have hEW : Ext w W := by rw [hW]; exact ((Ext.refl w).alloc _).alloc _
  have hr1 : Row W w.heap.size 80 #[.int .i64 seq, .slice A n c] := by rw [hW]; exact (Row.new w _ _).alloc _
  have hr2 : Row W (w.heap.size + 1) 80 #[.int .i64 seq, .slice B n c2] := by
    rw [hW]
    have h := Row.new (w.alloc (.cells #[.int .i64 seq, .slice A n c] 80)) 80 #[.int .i64 seq, .slice B n c2]
    simpa using h
  replace hn := hide hn
  replace hlen := hide hlen
  replace hlm := hide hlm
  go_enter Tryz.func47, Tryz.ntmps47
  go_wp2_with fail
  rw [← hW]
  clear hW
  go_loopw [5] (fun s5 wr => ∃ i : Nat, s5 = .int .i64 (i : Int) ∧ i ≤ n ∧ Hid (Ext W wr)) (fun s5 _ => n - (intOf s5).toNat)
  case atStart => exact ⟨0, rfl, by omega, hide (Ext.refl W)⟩
  case round =>
    obtain ⟨i, rfl, hi, hE⟩ := hrel
    have y1 : wr.cell? ⟨w.heap.size, 1, none⟩ = some (.slice A n c) := (hr1.ext hE.out).cell 1 rfl
    have y2 : wr.cell? ⟨w.heap.size + 1, 1, none⟩ = some (.slice B n c2) := (hr2.ext hE.out).cell 1 rfl
    by_cases hin : i < n
    · obtain ⟨x, hx⟩ : ∃ x, l[i]? = some x := ⟨_, List.getElem?_eq_getElem (by rw [← hn.out]; exact hin)⟩
      obtain ⟨y, hy⟩ : ∃ y, m[i]? = some y := ⟨_, List.getElem?_eq_getElem (by rw [hlen.out]; exact hin)⟩
      have hxy := evs_alike hlm.out hx hy
      have hE0 := hEW.trans hE.out
      obtain ⟨g, o, hA, k0, k1⟩ := ecells_at (hl.cells.ext hE0) hx
      obtain ⟨g2, o2, hB, k2, k3⟩ := ecells_at (hm.cells.ext hE0) hy
      have hxo := (hl.each x (List.mem_of_getElem? hx)).ext hEW
      have hyo := (hm.each y (List.mem_of_getElem? hy)).ext hEW
      obtain ⟨⟨at_, fs⟩, C, d⟩ := x
      obtain ⟨y, D, d2⟩ := y
      simp only at hxy k0 k1 k2 k3 hxo hyo
      subst hxy hA hB
      have hsm : ∀ x, (x.cell? ⟨w.heap.size, 1, none⟩ = some (.slice (some ⟨g, o, none⟩) n c) ∧ x.cell? ⟨w.heap.size + 1, 1, none⟩ = some (.slice (some ⟨g2, o2, none⟩) n c2) ∧ x.cell? ⟨g, o + i * 2, none⟩ = some (.int .i64 at_) ∧ x.cell? ⟨g, o + i * 2 + 1, none⟩ = some (.slice C fs.length d) ∧ x.cell? ⟨g2, o2 + i * 2, none⟩ = some (.int .i64 at_) ∧ x.cell? ⟨g2, o2 + i * 2 + 1, none⟩ = some (.slice D fs.length d2) ∧ Ext W x) → Calls Tryz.prog 85 #[.agg #[.int .i64 at_, .slice C fs.length d], .agg #[.int .i64 at_, .slice D fs.length d2]] x fun e y => e = .returned (.bool true) ∧ (y.cell? ⟨w.heap.size, 1, none⟩ = some (.slice (some ⟨g, o, none⟩) n c) ∧ y.cell? ⟨w.heap.size + 1, 1, none⟩ = some (.slice (some ⟨g2, o2, none⟩) n c2) ∧ y.cell? ⟨g, o + i * 2, none⟩ = some (.int .i64 at_) ∧ y.cell? ⟨g, o + i * 2 + 1, none⟩ = some (.slice C fs.length d) ∧ y.cell? ⟨g2, o2 + i * 2, none⟩ = some (.int .i64 at_) ∧ y.cell? ⟨g2, o2 + i * 2 + 1, none⟩ = some (.slice D fs.length d2) ∧ Ext W y) := fun x ⟨ha, hb, h0, h1, h2, h3, hE⟩ =>
        (resame_any ⟨at_, fs⟩ ⟨at_, fs⟩ C D d d2 x (hxo.ext hE) (hyo.ext hE)).mono fun e y ⟨he, hEy⟩ => ⟨by rw [he, show sameE ⟨at_, fs⟩ ⟨at_, fs⟩ = true from decide_eq_true ⟨rfl, rfl⟩], hEy.cell ha, hEy.cell hb, hEy.cell h0, hEy.cell h1, hEy.cell h2, hEy.cell h3, hE.trans hEy⟩
      have hS0 : wr.cell? ⟨w.heap.size, 1, none⟩ = some (.slice (some ⟨g, o, none⟩) n c) ∧ wr.cell? ⟨w.heap.size + 1, 1, none⟩ = some (.slice (some ⟨g2, o2, none⟩) n c2) ∧ wr.cell? ⟨g, o + i * 2, none⟩ = some (.int .i64 at_) ∧ wr.cell? ⟨g, o + i * 2 + 1, none⟩ = some (.slice C fs.length d) ∧ wr.cell? ⟨g2, o2 + i * 2, none⟩ = some (.int .i64 at_) ∧ wr.cell? ⟨g2, o2 + i * 2 + 1, none⟩ = some (.slice D fs.length d2) ∧ Ext W wr := ⟨y1, y2, k0, k1, k2, k3, hE.out⟩
      have hS1 : wr.drew.cell? ⟨w.heap.size, 1, none⟩ = some (.slice (some ⟨g, o, none⟩) n c) ∧ wr.drew.cell? ⟨w.heap.size + 1, 1, none⟩ = some (.slice (some ⟨g2, o2, none⟩) n c2) ∧ wr.drew.cell? ⟨g, o + i * 2, none⟩ = some (.int .i64 at_) ∧ wr.drew.cell? ⟨g, o + i * 2 + 1, none⟩ = some (.slice C fs.length d) ∧ wr.drew.cell? ⟨g2, o2 + i * 2, none⟩ = some (.int .i64 at_) ∧ wr.drew.cell? ⟨g2, o2 + i * 2 + 1, none⟩ = some (.slice D fs.length d2) ∧ Ext W wr.drew := ⟨y1, y2, k0, k1, k2, k3, hE.out.drew⟩
      have hxt : ∀ x, (x.cell? ⟨w.heap.size, 1, none⟩ = some (.slice (some ⟨g, o, none⟩) n c) ∧ x.cell? ⟨w.heap.size + 1, 1, none⟩ = some (.slice (some ⟨g2, o2, none⟩) n c2) ∧ x.cell? ⟨g, o + i * 2, none⟩ = some (.int .i64 at_) ∧ x.cell? ⟨g, o + i * 2 + 1, none⟩ = some (.slice C fs.length d) ∧ x.cell? ⟨g2, o2 + i * 2, none⟩ = some (.int .i64 at_) ∧ x.cell? ⟨g2, o2 + i * 2 + 1, none⟩ = some (.slice D fs.length d2) ∧ Ext W x) → Ext W x := fun x h => h.2.2.2.2.2.2
      have hi0 : (0 : Int) ≤ i := by omega
      have hi1 : (i : Int) < n := by omega
      replace hsm := hide hsm
      replace hS0 := hide hS0
      replace hS1 := hide hS1
      replace hxt := hide hxt
      clear hx hy hxo hyo hE0
      go_wp2_with fail
      go_region_held3 (fun x => x.cell? ⟨w.heap.size, 1, none⟩ = some (.slice (some ⟨g, o, none⟩) n c) ∧ x.cell? ⟨w.heap.size + 1, 1, none⟩ = some (.slice (some ⟨g2, o2, none⟩) n c2) ∧ x.cell? ⟨g, o + i * 2, none⟩ = some (.int .i64 at_) ∧ x.cell? ⟨g, o + i * 2 + 1, none⟩ = some (.slice C fs.length d) ∧ x.cell? ⟨g2, o2 + i * 2, none⟩ = some (.int .i64 at_) ∧ x.cell? ⟨g2, o2 + i * 2 + 1, none⟩ = some (.slice D fs.length d2) ∧ Ext W x) (first | exact hS1.out | exact hS0.out | exact ‹_›) (first | (go_at_call 85; refine (hsm.out _ ‹_›).mono ?_; rintro e w3 ⟨rfl, hSc⟩))
      go_wp2_with fail
      have hEn := hide (hxt.out _ ‹_›)
      go_roundw
      case rel => exact ⟨i + 1, by go_num, by omega, hEn⟩
      case measure => simp [intOf]; omega
    · go_wp2_with fail
      go_ret
      exact ⟨rfl, hEW.trans hE.out⟩
set_option maxRecDepth 100000 in
set_option maxHeartbeats 4000000 in
theorem samebatches_any (l m : List BtC) (A B : Option Addr) (c c2 : Nat) (w : World) (hl : BsOk w A l) (hm : BsOk w B m) (hlm : l.map (·.bt) = m.map (·.bt)) (hb : l.length ≤ 9223372036854775807) :
    Calls Tryz.prog 16 #[.slice A l.length c, .slice B m.length c2] w fun en w' => en = .returned (.bool true) ∧ Ext w w' := by
  have hlen : m.length = l.length := by
    have := congrArg List.length hlm
    rw [List.length_map, List.length_map] at this
    exact this.symm
  obtain ⟨n, hn⟩ : ∃ n, n = l.length := ⟨_, rfl⟩
  rw [hlen, ← hn]
  rw [← hn] at hb hlen
  replace hn := hide hn
  replace hlen := hide hlen
  replace hlm := hide hlm
  go_enter Tryz.func16, Tryz.ntmps16
  go_wp2_with fail
  go_loopw [5] (fun s5 wr => ∃ i : Nat, s5 = .int .i64 (i : Int) ∧ i ≤ n ∧ Hid (Ext w wr)) (fun s5 _ => n - (intOf s5).toNat)
  case atStart => exact ⟨0, rfl, by omega, hide (Ext.refl w)⟩
  case round =>
    obtain ⟨i, rfl, hi, hE⟩ := hrel
    by_cases hin : i < n
    · obtain ⟨x, hx⟩ : ∃ x, l[i]? = some x := ⟨_, List.getElem?_eq_getElem (by rw [← hn.out]; exact hin)⟩
      obtain ⟨y, hy⟩ : ∃ y, m[i]? = some y := ⟨_, List.getElem?_eq_getElem (by rw [hlen.out]; exact hin)⟩
      have hxy : x.bt = y.bt := by
        have h1 : (l.map (·.bt))[i]? = some x.bt := by rw [List.getElem?_map, hx]; rfl
        have h2 : (m.map (·.bt))[i]? = some y.bt := by rw [List.getElem?_map, hy]; rfl
        rw [hlm.out, h2] at h1
        exact (Option.some.inj h1).symm
      obtain ⟨g, o, hA, k0, k1⟩ := bcells_at (hl.cells.ext hE.out) hx
      obtain ⟨g2, o2, hB, k2, k3⟩ := bcells_at (hm.cells.ext hE.out) hy
      have hxo := hl.each x (List.mem_of_getElem? hx)
      have hyo := hm.each y (List.mem_of_getElem? hy)
      have hsb := fun W hE => samebatch_any x y W (hxo.ext hE) (hyo.ext hE) hxy
      have hsq : x.seq = y.seq := congrArg Bt.seq hxy
      have hll : y.l.length = x.l.length := by
        have := congrArg (fun b => b.es.length) hxy
        unfold BtC.bt at this
        simp only [List.length_map] at this
        exact this.symm
      unfold BtC.val at hsb
      obtain ⟨k, hk⟩ : ∃ k, k = x.l.length := ⟨_, rfl⟩
      obtain ⟨sq, hsqd⟩ : ∃ sq, sq = x.seq := ⟨_, rfl⟩
      rw [← hsq] at hsb k2
      rw [← hsqd] at hsb k0 k2
      rw [hll, ← hk] at hsb
      rw [hll] at k3
      rw [← hk] at k1 k3
      obtain ⟨C, hC⟩ : ∃ C, C = x.A := ⟨_, rfl⟩
      obtain ⟨d, hd⟩ : ∃ d, d = x.c := ⟨_, rfl⟩
      obtain ⟨D, hD⟩ : ∃ D, D = y.A := ⟨_, rfl⟩
      obtain ⟨d2, hd2⟩ : ∃ d2, d2 = y.c := ⟨_, rfl⟩
      rw [← hC, ← hd] at k1
      rw [← hD, ← hd2] at k3
      rw [← hC, ← hd, ← hD, ← hd2] at hsb
      subst hA hB
      have hsm : ∀ x, (x.cell? ⟨g, o + i * 2, none⟩ = some (.int .i64 sq) ∧ x.cell? ⟨g, o + i * 2 + 1, none⟩ = some (.slice C k d) ∧ x.cell? ⟨g2, o2 + i * 2, none⟩ = some (.int .i64 sq) ∧ x.cell? ⟨g2, o2 + i * 2 + 1, none⟩ = some (.slice D k d2) ∧ Ext w x) → Calls Tryz.prog 47 #[.agg #[.int .i64 sq, .slice C k d], .agg #[.int .i64 sq, .slice D k d2]] x fun e y => e = .returned (.bool true) ∧ (y.cell? ⟨g, o + i * 2, none⟩ = some (.int .i64 sq) ∧ y.cell? ⟨g, o + i * 2 + 1, none⟩ = some (.slice C k d) ∧ y.cell? ⟨g2, o2 + i * 2, none⟩ = some (.int .i64 sq) ∧ y.cell? ⟨g2, o2 + i * 2 + 1, none⟩ = some (.slice D k d2) ∧ Ext w y) := fun x ⟨h0, h1, h2, h3, hE⟩ =>
        (hsb x hE).mono fun e y ⟨he, hEy⟩ => ⟨he, hEy.cell h0, hEy.cell h1, hEy.cell h2, hEy.cell h3, hE.trans hEy⟩
      have hS0 : wr.cell? ⟨g, o + i * 2, none⟩ = some (.int .i64 sq) ∧ wr.cell? ⟨g, o + i * 2 + 1, none⟩ = some (.slice C k d) ∧ wr.cell? ⟨g2, o2 + i * 2, none⟩ = some (.int .i64 sq) ∧ wr.cell? ⟨g2, o2 + i * 2 + 1, none⟩ = some (.slice D k d2) ∧ Ext w wr := ⟨k0, k1, k2, k3, hE.out⟩
      have hS1 : wr.drew.cell? ⟨g, o + i * 2, none⟩ = some (.int .i64 sq) ∧ wr.drew.cell? ⟨g, o + i * 2 + 1, none⟩ = some (.slice C k d) ∧ wr.drew.cell? ⟨g2, o2 + i * 2, none⟩ = some (.int .i64 sq) ∧ wr.drew.cell? ⟨g2, o2 + i * 2 + 1, none⟩ = some (.slice D k d2) ∧ Ext w wr.drew := ⟨k0, k1, k2, k3, hE.out.drew⟩
      have hxt : ∀ x, (x.cell? ⟨g, o + i * 2, none⟩ = some (.int .i64 sq) ∧ x.cell? ⟨g, o + i * 2 + 1, none⟩ = some (.slice C k d) ∧ x.cell? ⟨g2, o2 + i * 2, none⟩ = some (.int .i64 sq) ∧ x.cell? ⟨g2, o2 + i * 2 + 1, none⟩ = some (.slice D k d2) ∧ Ext w x) → Ext w x := fun x h => h.2.2.2.2
      have hi0 : (0 : Int) ≤ i := by omega
      have hi1 : (i : Int) < n := by omega
      replace hsm := hide hsm
      replace hS0 := hide hS0
      replace hS1 := hide hS1
      replace hxt := hide hxt
      clear hx hy hxo hyo hsb hxy hsq hll hk hsqd hC hd hD hd2
      go_wp2_with fail
      go_region_held3 (fun x => x.cell? ⟨g, o + i * 2, none⟩ = some (.int .i64 sq) ∧ x.cell? ⟨g, o + i * 2 + 1, none⟩ = some (.slice C k d) ∧ x.cell? ⟨g2, o2 + i * 2, none⟩ = some (.int .i64 sq) ∧ x.cell? ⟨g2, o2 + i * 2 + 1, none⟩ = some (.slice D k d2) ∧ Ext w x) (first | exact hS1.out | exact hS0.out | exact ‹_›) (first | (go_at_call 47; refine (hsm.out _ ‹_›).mono ?_; rintro e w3 ⟨rfl, hSc⟩))
      go_wp2_with fail
      have hEn := hide (hxt.out _ ‹_›)
      go_roundw
      case rel => exact ⟨i + 1, by go_num, by omega, hEn⟩
      case measure => simp [intOf]; omega
    · go_wp2_with fail
      go_ret
      exact ⟨rfl, hE.out⟩
end Go.Proofs.YtohphanbnhiodaaGreat

/- The sum of bytes (CRC-32, reflected), plainly. -/
namespace Go.Proofs.YtohphanbnhiodaaGreat

def cstep (y : Nat) : Nat := if y % 2 = 1 then (y / 2) ^^^ 3988292384 else y / 2
def c8 (y : Nat) : Nat := cstep (cstep (cstep (cstep (cstep (cstep (cstep (cstep y)))))))
/-- One byte more. -/
def con (x : Nat) (c : UInt8) : Nat := c8 (x ^^^ c.toNat)
def cnot (x : Nat) : Nat := 4294967295 - x
def cnext (s : Nat) (l : List UInt8) : Nat := cnot (l.foldl con (cnot s))
theorem half_xor (a b : Nat) : (a ^^^ b) / 2 = (a / 2) ^^^ (b / 2) := by
  have := Nat.shiftRight_xor_distrib (a := a) (b := b) (i := 1)
  simpa [Nat.shiftRight_eq_div_pow] using this
theorem odd_xor (a b : Nat) : (a ^^^ b) % 2 = (a % 2) ^^^ (b % 2) := by
  have := Nat.xor_mod_two_pow (a := a) (b := b) (n := 1)
  simpa using this
theorem cstep_xor (a b : Nat) : cstep (a ^^^ b) = cstep a ^^^ cstep b := by
  unfold cstep
  rw [half_xor, odd_xor]
  rcases Nat.mod_two_eq_zero_or_one a with ha | ha <;> rcases Nat.mod_two_eq_zero_or_one b with hb | hb <;> rw [ha, hb]
  · rfl
  · show (a / 2 ^^^ b / 2) ^^^ 3988292384 = (a / 2) ^^^ (b / 2 ^^^ 3988292384)
    rw [Nat.xor_assoc]
  · show (a / 2 ^^^ b / 2) ^^^ 3988292384 = (a / 2 ^^^ 3988292384) ^^^ (b / 2)
    rw [Nat.xor_assoc, Nat.xor_assoc, Nat.xor_comm (b / 2)]
  · show (a / 2 ^^^ b / 2) = (a / 2 ^^^ 3988292384) ^^^ (b / 2 ^^^ 3988292384)
    rw [Nat.xor_assoc, ← Nat.xor_assoc 3988292384, Nat.xor_comm 3988292384 (b / 2), Nat.xor_assoc (b / 2), Nat.xor_self, Nat.xor_zero]
theorem c8_xor (a b : Nat) : c8 (a ^^^ b) = c8 a ^^^ c8 b := by
  unfold c8
  simp only [cstep_xor]
theorem cstep_two (z : Nat) : cstep (z * 2) = z := by
  unfold cstep
  rw [if_neg (by omega)]
  omega
theorem c8_high (z : Nat) : c8 (z * 256) = z := by
  unfold c8
  rw [show z * 256 = z * 2 * 2 * 2 * 2 * 2 * 2 * 2 * 2 by omega]
  simp only [cstep_two]
theorem split_low (y : Nat) : y = (y % 256) ^^^ (y / 256 * 256) := by
  have h : y / 256 * 256 ||| y % 256 = y / 256 * 256 + y % 256 := by
    have := Nat.shiftLeft_add_eq_or_of_lt (b := y % 256) (i := 8) (Nat.mod_lt _ (by decide)) (y / 256)
    rw [Nat.shiftLeft_eq] at this
    exact this.symm
  apply Nat.eq_of_testBit_eq
  intro i
  rw [Nat.testBit_xor]
  have h1 : (y % 256).testBit i = (decide (i < 8) && y.testBit i) := Nat.testBit_mod_two_pow y 8 i
  have h2 : (y / 256 * 256).testBit i = (decide (8 ≤ i) && y.testBit i) := by
    have e : y / 256 * 256 = (y >>> 8) <<< 8 := by rw [Nat.shiftRight_eq_div_pow, Nat.shiftLeft_eq]
    rw [e, Nat.testBit_shiftLeft, Nat.testBit_shiftRight]
    by_cases h8 : 8 ≤ i
    · rw [show 8 + (i - 8) = i by omega]
    · simp [h8]
  rw [h1, h2]
  by_cases h8 : i < 8
  · simp [h8, show ¬ 8 ≤ i by omega]
  · simp [h8, show 8 ≤ i by omega]
/-- By the table. -/
theorem con_table (x : Nat) (c : UInt8) : con x c = c8 ((x ^^^ c.toNat) % 256) ^^^ (x / 256) := by
  unfold con
  have hc : c.toNat / 256 = 0 := by have := c.toNat_lt; omega
  have h := Nat.shiftRight_xor_distrib (a := x) (b := c.toNat) (i := 8)
  rw [Nat.shiftRight_eq_div_pow, Nat.shiftRight_eq_div_pow, Nat.shiftRight_eq_div_pow] at h
  have h2 : (x ^^^ c.toNat) / 256 = x / 256 := by
    have : (2 : Nat) ^ 8 = 256 := rfl
    rw [this, hc, Nat.xor_zero] at h
    exact h
  conv => lhs; rw [split_low (x ^^^ c.toNat)]
  rw [c8_xor, c8_high, h2]
theorem cstep_lt {y : Nat} (h : y < 4294967296) : cstep y < 4294967296 := by
  unfold cstep
  split
  · exact Nat.xor_lt_two_pow (n := 32) (by omega) (by omega)
  · omega
theorem c8_lt {y : Nat} (h : y < 4294967296) : c8 y < 4294967296 := by
  unfold c8
  exact cstep_lt (cstep_lt (cstep_lt (cstep_lt (cstep_lt (cstep_lt (cstep_lt (cstep_lt h)))))))
theorem con_lt {x : Nat} (c : UInt8) (h : x < 4294967296) : con x c < 4294967296 := by
  unfold con
  have := c.toNat_lt
  exact c8_lt (Nat.xor_lt_two_pow (n := 32) (by omega) (by omega))
theorem fold_lt : ∀ (l : List UInt8) {x : Nat}, x < 4294967296 → l.foldl con x < 4294967296
  | [], _, h => h
  | c :: l, _, h => fold_lt l (con_lt c h)
theorem cnext_lt (s : Nat) (l : List UInt8) : cnext s l < 4294967296 := by
  unfold cnext cnot
  omega
theorem cstep_inj {a b : Nat} (ha : a < 4294967296) (hb : b < 4294967296) (h : cstep a = cstep b) : a = b := by
  have top : ∀ z, z < 2147483648 → 2147483648 ≤ z ^^^ 3988292384 := fun z hz => by
    apply Nat.le_of_not_lt
    intro hlt
    have h1 : (z ^^^ 3988292384).testBit 31 = false := Nat.testBit_lt_two_pow hlt
    rw [Nat.testBit_xor, Nat.testBit_lt_two_pow (show z < 2 ^ 31 from hz)] at h1
    revert h1
    decide
  unfold cstep at h
  rcases Nat.mod_two_eq_zero_or_one a with pa | pa <;> rcases Nat.mod_two_eq_zero_or_one b with pb | pb <;> simp only [pa, pb] at h
  · simp at h; omega
  · simp at h; have := top (b / 2) (by omega); omega
  · simp at h; have := top (a / 2) (by omega); omega
  · simp at h
    have h2 := congrArg (· ^^^ 3988292384) h
    simp [Nat.xor_assoc] at h2
    omega
theorem c8_inj {a b : Nat} (ha : a < 4294967296) (hb : b < 4294967296) (h : c8 a = c8 b) : a = b := by
  unfold c8 at h
  have q := @cstep_lt
  refine cstep_inj ha hb (cstep_inj (q ha) (q hb) (cstep_inj (q (q ha)) (q (q hb)) (cstep_inj (q (q (q ha))) (q (q (q hb))) (cstep_inj (q (q (q (q ha)))) (q (q (q (q hb)))) (cstep_inj (q (q (q (q (q ha))))) (q (q (q (q (q hb))))) (cstep_inj (q (q (q (q (q (q ha)))))) (q (q (q (q (q (q hb)))))) (cstep_inj (q (q (q (q (q (q (q ha))))))) (q (q (q (q (q (q (q hb))))))) h)))))))
theorem con_inj_left {a b : Nat} (c : UInt8) (ha : a < 4294967296) (hb : b < 4294967296) (h : con a c = con b c) : a = b := by
  have := c.toNat_lt
  have h1 := c8_inj (Nat.xor_lt_two_pow (n := 32) (by omega) (by omega)) (Nat.xor_lt_two_pow (n := 32) (by omega) (by omega)) h
  have h2 := congrArg (· ^^^ c.toNat) h1
  simpa [Nat.xor_assoc] using h2
theorem con_inj_right {a : Nat} {c d : UInt8} (ha : a < 4294967296) (h : con a c = con a d) : c = d := by
  have := c.toNat_lt
  have := d.toNat_lt
  have h1 := c8_inj (Nat.xor_lt_two_pow (n := 32) (by omega) (by omega)) (Nat.xor_lt_two_pow (n := 32) (by omega) (by omega)) h
  have h2 := congrArg (a ^^^ ·) h1
  simp only [← Nat.xor_assoc, Nat.xor_self, Nat.zero_xor] at h2
  exact UInt8.toNat_inj.1 h2
theorem fold_inj : ∀ (l : List UInt8) {a b : Nat}, a < 4294967296 → b < 4294967296 → l.foldl con a = l.foldl con b → a = b
  | [], _, _, _, _, h => h
  | c :: l, _, _, ha, hb, h => con_inj_left c ha hb (fold_inj l (con_lt c ha) (con_lt c hb) h)
/-- One byte that is another one turns the sum. -/
theorem cnext_one {s : Nat} (p q : List UInt8) {c d : UInt8} (h : cnext s (p ++ c :: q) = cnext s (p ++ d :: q)) : c = d := by
  unfold cnext at h
  have hs : cnot s < 4294967296 := by unfold cnot; omega
  have hp := fold_lt p hs
  rw [List.foldl_append, List.foldl_append, List.foldl_cons, List.foldl_cons] at h
  have h1 := fold_lt q (con_lt c hp)
  have h2 := fold_lt q (con_lt d hp)
  unfold cnot at h h1 h2 hs hp
  have h3 := fold_inj q (con_lt c hp) (con_lt d hp) (by omega)
  exact con_inj_right hp h3
end Go.Proofs.YtohphanbnhiodaaGreat

/- loggia/crc: table, Next; loggiaref03: on, Next, Of. -/
namespace Go.Proofs.YtohphanbnhiodaaGreat
open Go.RowKit

def citer : Nat → Nat → Nat
  | 0, y => y
  | k + 1, y => citer k (cstep y)
theorem citer8 (y : Nat) : c8 y = citer 8 y := rfl
theorem citer_step {z v j : Nat} (h : z = citer (8 - j) v) (hj : j < 8) : z = citer (8 - (j + 1)) (cstep v) := by
  rw [h, show 8 - j = (8 - (j + 1)) + 1 by omega]
  rfl
theorem citer_end {z v j : Nat} (h : z = citer (8 - j) v) (hj : 8 ≤ j) : z = v := by
  rw [h, show 8 - j = 0 by omega]
  rfl
theorem cstep_odd {v : Nat} (h : v % 2 = 1) : cstep v = (v / 2) ^^^ 3988292384 := by unfold cstep; rw [if_pos h]
theorem cstep_even {v : Nat} (h : v % 2 = 0) : cstep v = v / 2 := by unfold cstep; rw [if_neg (by omega)]
theorem xor_poly {d : Nat} (h : d < 4294967296) : bits .xor .u32 (d : Int) 3988292384 = ((d ^^^ 3988292384 : Nat) : Int) := by
  rw [show (3988292384 : Int) = ((3988292384 : Nat) : Int) from rfl, u32_xor_nat _ _ h (by omega)]
set_option maxRecDepth 100000 in
set_option maxHeartbeats 1000000 in
theorem on_any (x c : Nat) (w : World) (hx : x < 4294967296) (hc : c < 256) : Calls Tryz.prog 119 #[.int .u32 x, .int .u8 c] w fun e w' => e = .returned (.int .u32 (c8 (x ^^^ c) : Nat)) ∧ w' = w := by
  have hxor : bits .xor .u32 (x : Int) (c : Int) = ((x ^^^ c : Nat) : Int) := u32_xor_nat _ _ hx (by omega)
  have hlt : x ^^^ c < 4294967296 := Nat.xor_lt_two_pow (n := 32) hx (by omega)
  obtain ⟨y, hy⟩ : ∃ y, y = x ^^^ c := ⟨_, rfl⟩
  rw [← hy] at hxor hlt ⊢
  obtain ⟨z, hz⟩ : ∃ z, z = c8 y := ⟨_, rfl⟩
  rw [← hz]
  rw [citer8] at hz
  replace hz := hide hz
  clear hy
  go_enter Tryz.func119, Tryz.ntmps119
  go_wp2_with fail
  go_loop [0, 5] (fun s0 s5 => ∃ (j v : Nat), s5 = .int .i64 j ∧ j ≤ 8 ∧ s0 = .int .u32 v ∧ v < 4294967296 ∧ Hid (z = citer (8 - j) v)) (fun _ s5 => 8 - (intOf s5).toNat)
  case atStart => exact ⟨0, y, rfl, by omega, rfl, hlt, hz⟩
  case round =>
    obtain ⟨j, v, rfl, hj, rfl, hv, hzv⟩ := hrel
    by_cases hj8 : j < 8
    · have hn := citer_step hzv.out hj8
      have hcl := cstep_lt hv
      replace hn := hide hn
      rcases Nat.mod_two_eq_zero_or_one v with hm | hm
      · have hs := cstep_even hm
        have hm2 : (v : Int) % 2 = 0 := by omega
        rw [hs] at hn hcl
        clear hm hs hzv
        go_wp2_with fail
        go_round
        case rel => exact ⟨j + 1, v / 2, by go_num, by omega, by go_num, hcl, hn⟩
        case measure => simp [intOf]; omega
      · have hs := cstep_odd hm
        have hm2 : (v : Int) % 2 = 1 := by omega
        obtain ⟨d, hd⟩ : ∃ d, d = v / 2 := ⟨_, rfl⟩
        have hdv : (v : Int) / 2 = (d : Int) := by omega
        have hxp := xor_poly (d := d) (by omega)
        rw [hs, ← hd] at hn hcl
        obtain ⟨q, hq⟩ : ∃ q, q = d ^^^ 3988292384 := ⟨_, rfl⟩
        rw [← hq] at hn hcl hxp
        clear hm hs hzv hd hq
        go_wp2_with fail
        go_round
        case rel => exact ⟨j + 1, q, by go_num, by omega, rfl, hcl, hn⟩
        case measure => simp [intOf]; omega
    · have hn := citer_end hzv.out (by omega)
      replace hn := hide hn
      clear hzv
      go_wp2_with fail
      go_ret
      exact ⟨by rw [hn.out]; rfl, rfl⟩
set_option maxRecDepth 100000 in
set_option maxHeartbeats 1000000 in
theorem rnext_any (A : Option Addr) (s n c : Nat) (l : List UInt8) (w0 w : World) (hb : In8 w0 A n c l) (hw : Ext w0 w) (hs : s < 4294967296) (hle : n ≤ 1000000000) :
    Calls Tryz.prog 105 #[.int .u32 s, .slice A n c] w fun e w' => e = .returned (.int .u32 (cnext s l : Nat)) ∧ w' = w := by
  have hnot := bits_not32 s hs
  have hcl : cnot s < 4294967296 := by unfold cnot; omega
  rw [show 4294967295 - s = cnot s from rfl] at hnot
  obtain ⟨y, hy⟩ : ∃ y, y = cnot s := ⟨_, rfl⟩
  rw [← hy] at hnot hcl
  have hr : cnext s l = 4294967295 - l.foldl con y := by unfold cnext; rw [← hy]; rfl
  replace hr := hide hr
  clear hy
  replace hb := hide hb
  go_enter Tryz.func105, Tryz.ntmps105
  go_wp2_with fail
  go_loop [0, 5] (fun s0 s5 => ∃ (i v : Nat), s5 = .int .i64 i ∧ i ≤ n ∧ s0 = .int .u32 v ∧ v < 4294967296 ∧ Hid (l.foldl con y = (l.drop i).foldl con v)) (fun _ s5 => n - (intOf s5).toNat)
  case atStart => exact ⟨0, y, rfl, by omega, rfl, hcl, rfl⟩
  case round =>
    obtain ⟨i, v, rfl, hi, rfl, hv, hf⟩ := hrel
    by_cases hin : i < n
    · have hil : i < l.length := by rw [← hb.out.len]; omega
      obtain ⟨g, o, rfl, hc⟩ := hb.out.bytes.at_ (by omega)
      have hcell := hw.cell (hc i hil)
      have hon := hide (fun w => on_any v l[i].toNat w hv l[i].toNat_lt)
      have hn : l.foldl con y = (l.drop (i + 1)).foldl con (con v l[i]) := by rw [hf.out, List.drop_eq_getElem_cons hil]; rfl
      have hcl2 := con_lt l[i] hv
      unfold con at hn hcl2
      replace hn := hide hn
      clear hc hf
      go_wp2_with fail
      refine (hon.out _).mono ?_
      rintro e w1 ⟨rfl, rfl⟩
      go_wp2_with fail
      go_round
      case rel => exact ⟨i + 1, _, by go_num, by omega, rfl, hcl2, hn⟩
      case measure => simp [intOf]; omega
    · have hf2 : l.foldl con y = v := by rw [hf.out, List.drop_of_length_le (by rw [← hb.out.len]; omega)]; rfl
      have hnv := bits_not32 v hv
      replace hf2 := hide hf2
      clear hf
      go_wp2_with fail
      go_ret
      exact ⟨ret_int (by rw [hr.out, hf2.out]), rfl⟩
set_option maxRecDepth 100000 in
theorem of_any (A : Option Addr) (n c : Nat) (l : List UInt8) (w0 w : World) (h : In8 w0 A n c l) (hw : Ext w0 w) (hle : n ≤ 1000000000) :
    Calls Tryz.prog 77 #[.slice A n c] w fun e w' => e = .returned (.int .u32 (cnext 0 l : Nat)) ∧ w' = w := by
  have hn := hide (rnext_any A 0 n c l w0 w h hw (show 0 < 4294967296 by decide) hle)
  clear h
  go_enter Tryz.func77, Tryz.ntmps77
  go_wp2_with fail
  refine hn.out.mono ?_
  rintro e w1 ⟨rfl, rfl⟩
  go_wp2_with fail
  go_ret
  exact ⟨rfl, rfl⟩
end Go.Proofs.YtohphanbnhiodaaGreat

/- loggia/crc: table, Next. -/
namespace Go.Proofs.YtohphanbnhiodaaGreat
open Go.RowKit

/-- The table, as far as it is filled. -/
def tabA (i : Nat) : Array Value := ((List.range 256).map fun k => if k < i then Value.int .u32 (c8 k : Nat) else .int .u32 0).toArray
theorem tabA_get {i k : Nat} (hk : k < 256) : (tabA i)[k]? = some (if k < i then Value.int .u32 (c8 k : Nat) else .int .u32 0) := by
  unfold tabA
  simp [hk]
theorem tabA_put {i : Nat} (hi : i < 256) : (tabA i).setIfInBounds i (.int .u32 (c8 i : Nat)) = tabA (i + 1) := by
  apply Array.ext_getElem?
  intro k
  rw [Array.getElem?_setIfInBounds]
  by_cases hk : k < 256
  · rw [tabA_get hk, tabA_get hk]
    have hs : i < (tabA i).size := by unfold tabA; simp; omega
    by_cases hik : i = k
    · subst hik
      rw [if_pos rfl, if_pos hs, if_pos (by omega)]
    · rw [if_neg hik]
      by_cases h1 : k < i
      · rw [if_pos h1, if_pos (by omega)]
      · rw [if_neg h1, if_neg (by omega)]
  · have h1 : (tabA i)[k]? = none := by unfold tabA; simp; omega
    have h2 : (tabA (i + 1))[k]? = none := by unfold tabA; simp; omega
    rw [h1, h2, if_neg (by omega)]
set_option maxRecDepth 100000 in
theorem tabA_zero : Tryz.zeroCells182 = tabA 0 := by kernel_rfl
theorem and_one {v : Nat} (h : v < 4294967296) : bits .and .u32 (v : Int) 1 = ((v % 2 : Nat) : Int) := by
  rw [show (1 : Int) = ((1 : Nat) : Int) from rfl, u32_and_nat _ _ h (by omega), Nat.and_one_is_mod]
set_option maxRecDepth 100000 in
set_option maxHeartbeats 2000000 in
theorem table_any (w : World) : Calls Tryz.prog 116 #[] w fun e w' => e = .returned (.pointer (some ⟨w.heap.size, 0, none⟩)) ∧ Row w' w.heap.size 182 (tabA 256) ∧ Ext w w' := by
  have hz : Row (w.alloc (.cells Tryz.zeroCells182 182)) w.heap.size 182 (tabA 0) := by rw [tabA_zero]; exact Row.new w _ _
  have hE0 : Ext w (w.alloc (.cells Tryz.zeroCells182 182)) := (Ext.refl w).alloc _
  replace hz := hide hz
  replace hE0 := hide hE0
  go_enter Tryz.func116, Tryz.ntmps116
  go_wp2_with fail
  go_loopw [2, 3, 4, 5] (fun _ _ _ s5 wr => ∃ (i : Nat), s5 = .int .i64 i ∧ i ≤ 256 ∧ Hid (Row wr w.heap.size 182 (tabA i)) ∧ Hid (Ext w wr)) (fun _ _ _ s5 _ => 256 - (intOf s5).toNat)
  case atStart => exact ⟨0, rfl, by omega, hz, hE0⟩
  case round =>
    obtain ⟨i, rfl, hi, hr, hE⟩ := hrel
    by_cases hin : i < 256
    · obtain ⟨z, hz8⟩ : ∃ z, z = c8 i := ⟨_, rfl⟩
      have hz9 := hide hz8
      rw [citer8] at hz8
      replace hz8 := hide hz8
      obtain ⟨wo, rfl⟩ : ∃ wo : World, wo = wr := ⟨_, rfl⟩
      go_wp2_with fail
      go_loop [3, 4, 10] (fun s3 _ s10 => ∃ (j v : Nat), s10 = .int .i64 j ∧ j ≤ 8 ∧ s3 = .int .u32 v ∧ v < 4294967296 ∧ Hid (z = citer (8 - j) v)) (fun _ _ s10 => 8 - (intOf s10).toNat)
      case atStart => exact ⟨0, i, rfl, by omega, by go_num, by omega, hz8⟩
      case round =>
        obtain ⟨j, v, rfl, hj, rfl, hv, hzv⟩ := hrel
        by_cases hj8 : j < 8
        · have hn := citer_step hzv.out hj8
          have hcl := cstep_lt hv
          have hand := and_one hv
          obtain ⟨q, hq⟩ : ∃ q, q = v % 2 := ⟨_, rfl⟩
          obtain ⟨d, hd⟩ : ∃ d, d = v / 2 := ⟨_, rfl⟩
          have hdv : (v : Int) / 2 = (d : Int) := by omega
          have hd32 : d < 4294967296 := by omega
          have hxp := xor_poly hd32
          rw [← hq] at hand
          rcases (show q = 0 ∨ q = 1 by omega) with rfl | rfl
          · rw [cstep_even hq.symm, ← hd] at hn
            replace hn := hide hn
            clear hq hd hzv hcl
            go_wp2_with fail
            go_round
            case rel => exact ⟨j + 1, d, by go_num, by omega, rfl, hd32, hn⟩
            case measure => simp [intOf]; omega
          · rw [cstep_odd hq.symm, ← hd] at hn hcl
            obtain ⟨y, hy⟩ : ∃ y, y = d ^^^ 3988292384 := ⟨_, rfl⟩
            rw [← hy] at hn hcl hxp
            replace hn := hide hn
            clear hq hd hzv hy
            go_wp2_with fail
            go_round
            case rel => exact ⟨j + 1, y, by go_num, by omega, rfl, hcl, hn⟩
            case measure => simp [intOf]; omega
        · have hn := citer_end hzv.out (by omega)
          have hcell := hr.out.cell i (tabA_get hin)
          have hfr := hr.out.free i
          have hlt := hr.out.lt
          rw [if_neg (by omega)] at hcell
          have hp := hr.out.put i (.int .u32 (v : Nat))
          rw [← hn, hz9.out, tabA_put hin] at hp
          have hn' := hide (hz9.out.symm.trans hn)
          replace hp := hide hp
          have hEs := hide (hE.out.setCell (p := ⟨w.heap.size, i, none⟩) (Nat.le_refl _) (.int .u32 ((c8 i : Nat) : Int)))
          clear hzv hn
          go_wp2_with fail
          go_roundw
          case rel => exact ⟨i + 1, by go_num, by omega, by rw [← hn'.out]; exact hp, by rw [← hn'.out]; exact hEs⟩
          case measure => simp [intOf]; omega
    · obtain rfl : i = 256 := by omega
      go_wp2_with fail
      go_ret
      exact ⟨rfl, hr.out, hE.out⟩
end Go.Proofs.YtohphanbnhiodaaGreat

/- loggia/crc: Next, Sum. -/
namespace Go.Proofs.YtohphanbnhiodaaGreat
open Go.RowKit

theorem con_parts (v : Nat) (c : UInt8) : con v c = c8 ((v % 256) ^^^ c.toNat) ^^^ (v / 256) := by
  rw [con_table]
  congr 2
  have h := Nat.xor_mod_two_pow (a := v) (b := c.toNat) (n := 8)
  have hc := c.toNat_lt
  rw [show (2 : Nat) ^ 8 = 256 from rfl, Nat.mod_eq_of_lt (a := c.toNat) (by omega)] at h
  exact h
set_option maxRecDepth 100000 in
set_option maxHeartbeats 1000000 in
theorem next_any (A : Option Addr) (s n c : Nat) (l : List UInt8) (w0 w : World) (hb : In8 w0 A n c l) (hw : Ext w0 w) (hs : s < 4294967296) (hle : n ≤ 1000000000) :
    Calls Tryz.prog 99 #[.int .u32 s, .slice A n c] w fun e w' => e = .returned (.int .u32 (cnext s l : Nat)) ∧ Ext w w' := by
  have htab := hide (table_any w)
  have hnot := bits_not32 s hs
  have hcl : cnot s < 4294967296 := by unfold cnot; omega
  rw [show 4294967295 - s = cnot s from rfl] at hnot
  obtain ⟨y, hy⟩ : ∃ y, y = cnot s := ⟨_, rfl⟩
  rw [← hy] at hnot hcl
  have hr : cnext s l = 4294967295 - l.foldl con y := by unfold cnext; rw [← hy]; rfl
  replace hr := hide hr
  clear hy
  replace hb := hide hb
  go_enter Tryz.func99, Tryz.ntmps99
  go_wp2_with fail
  refine htab.out.mono ?_
  rintro e w1 ⟨rfl, hrow, hE1⟩
  replace hrow := hide hrow
  replace hE1 := hide hE1
  go_wp2_with fail
  go_loop [6, 8, 14] (fun s6 _ s14 => ∃ (i v : Nat), s14 = .int .i64 i ∧ i ≤ n ∧ s6 = .int .u32 v ∧ v < 4294967296 ∧ Hid (l.foldl con y = (l.drop i).foldl con v)) (fun _ _ s14 => n - (intOf s14).toNat)
  case atStart => exact ⟨0, y, rfl, by omega, rfl, hcl, rfl⟩
  case round =>
    obtain ⟨i, v, rfl, hi, rfl, hv, hf⟩ := hrel
    by_cases hin : i < n
    · have hil : i < l.length := by rw [← hb.out.len]; omega
      obtain ⟨g, o, rfl, hc⟩ := hb.out.bytes.at_ (by omega)
      have hcell := (hw.trans hE1.out).cell (hc i hil)
      have hn : l.foldl con y = (l.drop (i + 1)).foldl con (con v l[i]) := by rw [hf.out, List.drop_eq_getElem_cons hil]; rfl
      have hcl2 := con_lt l[i] hv
      have hcp := con_parts v l[i]
      obtain ⟨x, hx⟩ : ∃ x, x = l[i].toNat := ⟨_, rfl⟩
      have hx8 : x < 256 := by rw [hx]; exact l[i].toNat_lt
      rw [← hx] at hcell hcp
      obtain ⟨z, hz⟩ : ∃ z, z = con v l[i] := ⟨_, rfl⟩
      rw [← hz] at hn hcl2 hcp
      obtain ⟨m, hm⟩ : ∃ m, m = v % 256 := ⟨_, rfl⟩
      have hmv : (v : Int) % 256 = (m : Int) := by omega
      have hm8 : m < 256 := by omega
      have hx2 := u8_xor_nat m x hm8 hx8
      rw [← hm] at hcp
      have hk8 : m ^^^ x < 256 := Nat.xor_lt_two_pow (n := 8) hm8 hx8
      obtain ⟨k, hk⟩ : ∃ k, k = m ^^^ x := ⟨_, rfl⟩
      rw [← hk] at hcp hx2 hk8
      have htc := hrow.out.cell k (tabA_get hk8)
      rw [if_pos hk8] at htc
      obtain ⟨t, ht⟩ : ∃ t, t = c8 k := ⟨_, rfl⟩
      have ht32 : t < 4294967296 := by rw [ht]; exact c8_lt (by omega)
      rw [← ht] at htc hcp
      obtain ⟨d, hd⟩ : ∃ d, d = v / 256 := ⟨_, rfl⟩
      have hdv : (v : Int) / 256 = (d : Int) := by omega
      have hx3 := u32_xor_nat t d ht32 (by omega)
      rw [← hd] at hcp
      rw [← hcp] at hx3
      replace hn := hide hn
      clear hc hf hx hz hm hk ht hd hcp
      go_wp2_with fail
      go_round
      case rel => exact ⟨i + 1, z, by go_num, by omega, rfl, hcl2, hn⟩
      case measure => simp [intOf]; omega
    · have hf2 : l.foldl con y = v := by rw [hf.out, List.drop_of_length_le (by rw [← hb.out.len]; omega)]; rfl
      have hnv := bits_not32 v hv
      replace hf2 := hide hf2
      clear hf
      go_wp2_with fail
      go_ret
      exact ⟨ret_int (by rw [hr.out, hf2.out]), hE1.out⟩
def csum (s : Nat) (ls : List (List UInt8)) : Nat := ls.foldl cnext s
theorem csum_lt {s : Nat} (h : s < 4294967296) : ∀ (ls : List (List UInt8)), csum s ls < 4294967296 := by
  intro ls
  induction ls generalizing s with
  | nil => exact h
  | cons l ls ih => exact ih (cnext_lt s l)
set_option maxRecDepth 100000 in
set_option maxHeartbeats 1000000 in
theorem sum_any (B : Option Addr) (k c2 : Nat) (ps : List (Option Addr × Nat × List UInt8)) (w : World) (hk : k = ps.length) (hB : Cells w B (ps.map fun p => .slice p.1 p.2.2.length p.2.1)) (hin : ∀ p ∈ ps, In8 w p.1 p.2.2.length p.2.1 p.2.2) (hle : ∀ p ∈ ps, p.2.2.length ≤ 1000000000) (hk9 : k ≤ 1000000) :
    Calls Tryz.prog 72 #[.slice B k c2] w fun e w' => e = .returned (.int .u32 (csum 0 (ps.map fun p => p.2.2) : Nat)) ∧ Ext w w' := by
  replace hk := hide hk
  replace hin := hide hin
  replace hle := hide hle
  go_enter Tryz.func72, Tryz.ntmps72
  go_wp2_with fail
  go_loopw [3, 5, 8] (fun s3 _ s8 wr => ∃ (i v : Nat), s8 = .int .i64 i ∧ i ≤ k ∧ s3 = .int .u32 v ∧ v < 4294967296 ∧ Hid (csum 0 (ps.map fun p => p.2.2) = csum v ((ps.drop i).map fun p => p.2.2)) ∧ Hid (Ext w wr)) (fun _ _ s8 _ => k - (intOf s8).toNat)
  case atStart => exact ⟨0, 0, rfl, by omega, rfl, by omega, hide rfl, hide (Ext.refl w)⟩
  case round =>
    obtain ⟨i, v, rfl, hi, rfl, hv, hf, hE⟩ := hrel
    by_cases hik : i < k
    · have hil : i < ps.length := by rw [← hk.out]; omega
      obtain ⟨g, o, rfl, hc⟩ := hB.at_ (by rw [List.length_map]; omega)
      have hcell := hE.out.cell (hc i _ (by rw [List.getElem?_map, List.getElem?_eq_getElem hil]; rfl))
      have hn : csum 0 (ps.map fun p => p.2.2) = csum (cnext v ps[i].2.2) ((ps.drop (i + 1)).map fun p => p.2.2) := by rw [hf.out, List.drop_eq_getElem_cons hil]; rfl
      have hnx := next_any ps[i].1 v ps[i].2.2.length ps[i].2.1 ps[i].2.2 w wr (hin.out _ (List.getElem_mem hil)) hE.out hv (hle.out _ (List.getElem_mem hil))
      have hcl := cnext_lt v ps[i].2.2
      obtain ⟨p, hp⟩ : ∃ p, p = ps[i] := ⟨_, rfl⟩
      rw [← hp] at hcell hn hnx hcl
      obtain ⟨z, hz⟩ : ∃ z, z = cnext v p.2.2 := ⟨_, rfl⟩
      rw [← hz] at hn hnx hcl
      replace hn := hide hn
      replace hnx := hide hnx
      clear hp hc hf hz
      go_wp2_with fail
      refine hnx.out.mono ?_
      rintro e w1 ⟨rfl, hE1⟩
      go_wp2_with fail
      go_roundw
      case rel => exact ⟨i + 1, z, by go_num, by omega, rfl, hcl, hn, hide (hE.out.trans hE1)⟩
      case measure => simp [intOf]; omega
    · have hf2 : csum 0 (ps.map fun p => p.2.2) = v := by rw [hf.out, List.drop_of_length_le (by rw [← hk.out]; omega)]; rfl
      replace hf2 := hide hf2
      clear hf
      go_wp2_with fail
      go_ret
      exact ⟨by rw [hf2.out]; rfl, hE.out⟩
end Go.Proofs.YtohphanbnhiodaaGreat

/- slices.Grow of nothing, slices.Concat of bytes. -/
namespace Go.Proofs.YtohphanbnhiodaaGreat
open Go.RowKit

set_option maxRecDepth 100000 in
set_option maxHeartbeats 1000000 in
theorem grow_any (n : Nat) (w : World) (hn : n ≤ 1000000000) : Calls Tryz.prog 100 #[.slice none 0 0, .int .i64 n] w fun e w' => ∃ A c, e = .returned (.slice A 0 c) ∧ Buf w' w.heap.size 5 A 0 c [] ∧ Ext w w' := by
  have hn0 : ¬ (n : Int) < 0 := by omega
  rcases Nat.eq_zero_or_pos n with rfl | hpos
  · go_enter Tryz.func100, Tryz.ntmps100
    go_wp2_with fail
    go_ret
    exact ⟨none, 0, rfl, Buf.nil _ _ _, Ext.refl w⟩
  · have hpos' : (0 : Int) < n := by omega
    obtain ⟨i, z, hi, hz, h3, h4, h5⟩ := elemB.hi
    have hrun := fun W ty => Lib.run_append_nil_zeros (P := Tryz.prog) W 34 3 ty 5 i z .i64 .i64 Tryz.underlying34 Tryz.underlying3 hi hz n hpos (by omega) (by omega) (by rw [h4]; omega)
    have hge := grownCap_ge w n 0 5
    obtain ⟨cur, hcur⟩ : ∃ cur, cur = Builtin.zeroCells z.cells n ++ Builtin.zeroCells z.cells (grownCap w n 0 5 - n) := ⟨_, rfl⟩
    have hcs : cur.size = grownCap w n 0 5 := by rw [hcur, Array.size_append, size_zeroCells, size_zeroCells, h5]; omega
    have hh0 := fun W => run_head1 (n := 0) (c := 0) (k := 0) (A := none) (Nat.le_refl _) nofun W
    have hh1 := fun W => run_head1 (n := n) (c := grownCap w n 0 5) (k := 0) (A := some ⟨w.heap.size, 0, none⟩) (by omega) (fun a ha => by cases ha; rfl) W
    obtain ⟨C, hC⟩ : ∃ C, C = grownCap w n 0 5 := ⟨_, rfl⟩
    rw [← hC] at hge hh1
    have hrun1 := fun ty => hrun w ty
    rw [← hcur, ← hC] at hrun1
    rw [← hC] at hcs
    replace hrun1 := hide hrun1
    clear hrun hC hcur h5 h4 h3 hz hi
    go_enter Tryz.func100, Tryz.ntmps100
    go_wp2_with (at_builtin; refine Lib.wpList_append_run _ rfl (.tmp 20) (.tmp 21) 34 3 rfl (.slice none 0 0) (.int .i64 n) rfl rfl _ _ (hrun1.out _) ?_)
    go_ret
    refine ⟨some ⟨w.heap.size, 0, none⟩, C, rfl, ⟨rfl, Nat.zero_le _, .inr ⟨w.heap.size, cur, rfl, Nat.le_refl _, heap_alloc_new w _, by omega, by simp⟩⟩, ?_⟩
    exact ((Ext.refl w).alloc _).drew
/-- The bytes of slices, one behind the other. -/
def catL (ps : List (Option Addr × Nat × List UInt8)) : List UInt8 := ps.flatMap fun p => p.2.2
theorem catL_take {ps : List (Option Addr × Nat × List UInt8)} {i : Nat} (h : i < ps.length) : catL (ps.take (i + 1)) = catL (ps.take i) ++ ps[i].2.2 := by
  unfold catL
  rw [List.take_succ_eq_append_getElem h, List.flatMap_append]
  simp
theorem catL_take_len (ps : List (Option Addr × Nat × List UInt8)) (i : Nat) : (catL (ps.take i)).length ≤ (catL ps).length := by
  have h : catL ps = catL (ps.take i) ++ catL (ps.drop i) := by
    unfold catL
    rw [← List.flatMap_append, List.take_append_drop]
  rw [h, List.length_append]
  omega
set_option maxRecDepth 100000 in
set_option maxHeartbeats 2000000 in
theorem concat_any (B : Option Addr) (k c2 : Nat) (ps : List (Option Addr × Nat × List UInt8)) (w : World) (hk : k = ps.length) (hB : Cells w B (ps.map fun p => .slice p.1 p.2.2.length p.2.1)) (hin : ∀ p ∈ ps, In8 w p.1 p.2.2.length p.2.1 p.2.2) (hle : (catL ps).length ≤ 1000000000) (hk9 : k ≤ 1000000) :
    Calls Tryz.prog 73 #[.slice B k c2] w fun e w' => NewB w (catL ps) e w' := by
  have hctl := catL_take_len ps
  obtain ⟨T, hT⟩ : ∃ T, T = (catL ps).length := ⟨_, rfl⟩
  rw [← hT] at hle hctl
  replace hk := hide hk
  replace hin := hide hin
  replace hctl := hide hctl
  replace hT := hide hT
  go_enter Tryz.func73, Tryz.ntmps73
  go_wp2_with fail
  go_loopw [3, 5, 11] (fun s3 _ s11 wr => ∃ (i v : Nat), s11 = .int .i64 (i : Int) ∧ i ≤ k ∧ s3 = .int .i64 (v : Int) ∧ v ≤ T ∧ Hid (v = (catL (ps.take i)).length) ∧ wr = w) (fun _ _ s11 _ => k - (intOf s11).toNat)
  case atStart => exact ⟨0, 0, rfl, by omega, rfl, by omega, hide (by simp [catL]), rfl⟩
  case round =>
    obtain ⟨i, v, rfl, hi, rfl, hv, hvl, rfl⟩ := hrel
    by_cases hik : i < k
    · have hil : i < ps.length := by rw [← hk.out]; omega
      obtain ⟨g, o, rfl, hc⟩ := hB.at_ (by rw [List.length_map]; omega)
      have hcell := hc i _ (by rw [List.getElem?_map, List.getElem?_eq_getElem hil]; rfl)
      have htk := catL_take hil
      have htl := hctl.out (i + 1)
      obtain ⟨p, hp⟩ : ∃ p, p = ps[i] := ⟨_, rfl⟩
      rw [← hp] at hcell htk
      have hvn : v + p.2.2.length = (catL (ps.take (i + 1))).length := by rw [htk, List.length_append, hvl.out]
      have hvT : v + p.2.2.length ≤ T := by omega
      have hnn : ¬ ((v : Int) + (p.2.2.length : Int)) < 0 := by omega
      have hi0 : (0 : Int) ≤ i := by omega
      have hi1 : (i : Int) < k := by omega
      replace hvn := hide hvn
      clear hp hc htk htl
      go_wp2_with fail
      go_roundw
      case rel => exact ⟨i + 1, v + p.2.2.length, by go_num, by omega, by go_num, hvT, hvn, trivial⟩
      case measure => simp [intOf]; omega
    · have hall : ps.take i = ps := List.take_of_length_le (by rw [← hk.out]; omega)
      have hgr := hide (grow_any v wr (by omega))
      rw [hall] at hvl
      go_wp2_with fail
      refine hgr.out.mono ?_
      rintro e w1 ⟨A1, c1, rfl, hb1, hE1⟩
      replace hb1 := hide hb1
      obtain ⟨wo, hwo⟩ : ∃ wo, wo = wr := ⟨_, rfl⟩
      rw [← hwo] at hE1 hB hin hb1
      have hgoal : ∀ e w', NewB wo (catL ps) e w' → NewB wr (catL ps) e w' := fun e w' h => by rw [← hwo]; exact h
      replace hgoal := hide hgoal
      replace hwo := hide hwo
      go_wp2_with fail
      go_loopw [6, 8, 27] (fun s6 _ s27 wz => ∃ (i n4 c4 : Nat) (A4 : Option Addr), s27 = .int .i64 (i : Int) ∧ i ≤ k ∧ s6 = .slice A4 n4 c4 ∧ n4 ≤ T ∧ Hid (n4 = (catL (ps.take i)).length) ∧ Hid (Buf wz wo.heap.size 5 A4 n4 c4 ((catL (ps.take i)).map B8)) ∧ Hid (Ext wo wz)) (fun _ _ s27 _ => k - (intOf s27).toNat)
      case atStart => exact ⟨0, 0, c1, A1, rfl, by omega, rfl, by omega, hide (by simp [catL]), hide (by simpa [catL] using hb1.out), hide hE1⟩
      case round =>
        obtain ⟨j, n4, c4, A4, rfl, hj, rfl, hn4, hnl, hb4, hE⟩ := hrel
        by_cases hjk : j < k
        · have hil : j < ps.length := by rw [← hk.out]; omega
          obtain ⟨g, o, rfl, hc⟩ := hB.at_ (by rw [List.length_map]; omega)
          have hcell := hE.out.cell (hc j _ (by rw [List.getElem?_map, List.getElem?_eq_getElem hil]; rfl))
          have htk := catL_take hil
          have htl := hctl.out (j + 1)
          have hpin := (hin.out _ (List.getElem_mem hil)).ext hE.out
          obtain ⟨p, hp⟩ : ∃ p, p = ps[j] := ⟨_, rfl⟩
          rw [← hp] at hcell htk hpin
          have hvn : n4 + p.2.2.length = (catL (ps.take (j + 1))).length := by rw [htk, List.length_append, hnl.out]
          have hvT : n4 + p.2.2.length ≤ T := by omega
          have hmap : (catL (ps.take (j + 1))).map B8 = (catL (ps.take j)).map B8 ++ p.2.2.map B8 := by rw [htk, List.map_append]
          have hi0 : (0 : Int) ≤ j := by omega
          have hi1 : (j : Int) < k := by omega
          have hszr : wo.heap.size ≤ (‹World›).heap.size := hE.out.size
          replace hvn := hide hvn
          replace hmap := hide hmap
          clear hp hc htk htl
          go_wp2_with (at_builtin; refine wpList_buf elemB hb4.out hpin.bytes (.tmp 31) (.tmp 32) rfl rfl rfl rfl rfl (by rw [List.length_map]) (fun u hu => by obtain ⟨x, _, rfl⟩ := List.mem_map.1 hu; rfl) (by omega) hszr (fun A5 c5 w5 hb5 hg5 hE5 _ => ?_))
          refine ⟨⟨j + 1, n4 + p.2.2.length, c5, A5, by go_num, by omega, rfl, hvT, hvn, hide (by rw [hmap.out]; exact hb5), hide (hE5 _ hE.out (Nat.le_refl _))⟩, ?_⟩
          simp [intOf]
          omega
        · have hall : ps.take j = ps := List.take_of_length_le (by rw [← hk.out]; omega)
          rw [hall] at hnl hb4
          have hfin : ∀ wz, Ext wo wz → Buf wz wo.heap.size 5 A4 n4 c4 ((catL ps).map B8) → NewB wo (catL ps) (.returned (.slice A4 n4 c4)) wz := fun wz h1 h2 => ⟨A4, c4, by rw [← hnl.out], by rw [← hnl.out]; exact h2, h1⟩
          replace hfin := hide hfin
          go_wp2_with fail
          go_ret
          exact hgoal.out _ _ (hfin.out _ hE.out hb4.out)
end Go.Proofs.YtohphanbnhiodaaGreat

/- Frames, plainly. -/
namespace Go.Proofs.YtohphanbnhiodaaGreat
open Go.RowKit

/-- Four bytes of a number, the greatest first. -/
def be4 (s : Nat) : List UInt8 := [UInt8.ofNat (s / 16777216 % 256), UInt8.ofNat (s / 65536 % 256), UInt8.ofNat (s / 256 % 256), UInt8.ofNat (s % 256)]
/-- The number of bytes, the greatest first. -/
def be (l : List UInt8) : Nat := l.foldl (fun s x => s * 256 + x.toNat) 0
theorem be_be4 {s : Nat} (h : s < 4294967296) : be (be4 s) = s := by
  have h1 : ∀ k, (UInt8.ofNat (k % 256)).toNat = k % 256 := fun k => by rw [UInt8.toNat_ofNat']; omega
  unfold be be4
  simp only [List.foldl_cons, List.foldl_nil, h1]
  omega
theorem cnot_cnot {x : Nat} (h : x < 4294967296) : cnot (cnot x) = x := by unfold cnot; omega
theorem cnext_app (a b : List UInt8) : cnext (cnext 0 a) b = cnext 0 (a ++ b) := by
  unfold cnext
  rw [cnot_cnot (fold_lt a (by unfold cnot; omega)), List.foldl_append]
/-- A payload's frame. -/
def frameL (p : List UInt8) : List UInt8 := vb p.length ++ be4 (cnext 0 (vb p.length ++ p)) ++ p
/-- The payload of the frame that stands first, and what stands behind; or why there is none. -/
def getF (l : List UInt8) : Except Nat (List UInt8 × List UInt8) := match getV 0 l with
  | .error k => if k = 6 then .error 41 else .error 40
  | .ok (n, r) => if 16777216 < n then .error 40 else if r.length < 4 + n then .error 41 else
    if cnext 0 (l.take (l.length - r.length) ++ (r.drop 4).take n) = be (r.take 4) then .ok ((r.drop 4).take n, r.drop (4 + n)) else .error 40
theorem getF_put {p : List UInt8} (h : p.length ≤ 16777216) (r : List UInt8) : getF (frameL p ++ r) = .ok (p, r) := by
  have hb4 : ∀ s, (be4 s).length = 4 := fun _ => rfl
  unfold getF frameL
  rw [List.append_assoc, List.append_assoc, getV_put (by omega)]
  simp only
  rw [if_neg (by omega), if_neg (by rw [List.length_append, List.length_append, hb4]; omega)]
  obtain ⟨B, hB⟩ : ∃ B, B = be4 (cnext 0 (vb p.length ++ p)) := ⟨_, rfl⟩
  have hBl : B.length = 4 := by rw [hB]; rfl
  have hBv : be B = cnext 0 (vb p.length ++ p) := by rw [hB]; exact be_be4 (cnext_lt _ _)
  rw [← hB]
  have e1 : (vb p.length ++ (B ++ (p ++ r))).length - (B ++ (p ++ r)).length = (vb p.length).length := by rw [List.length_append]; omega
  have e2 : (B ++ (p ++ r)).drop 4 = p ++ r := List.drop_left' hBl
  have e3 : (B ++ (p ++ r)).take 4 = B := List.take_left' hBl
  have e4 : (B ++ (p ++ r)).drop (4 + p.length) = r := by rw [← List.drop_drop, e2]; exact List.drop_left' rfl
  rw [e1, e2, e3, e4, List.take_left' rfl, List.take_left' rfl, hBv, if_pos rfl]
/-- A frame that is one is one whatever stands behind it. -/
theorem getV_other : ∀ (l : List UInt8) (i n : Nat) (r r' : List UInt8), getV i l = .ok (n, r) → ∃ p, l = p ++ r ∧ getV i (p ++ r') = .ok (n, r')
  | [], i, n, r, r', h => by unfold getV at h; cases h
  | x :: l, i, n, r, r', h => by
    unfold getV at h
    split at h
    · cases h
    · rename_i h1
      split at h
      · cases h
      · rename_i h2
        split at h
        · rename_i h3
          injection h with h
          injection h with e1 e2
          refine ⟨[x], by rw [← e2]; rfl, ?_⟩
          show getV i (x :: r') = _
          unfold getV
          rw [if_neg h1, if_neg h2, if_pos h3, e1]
        · rename_i h3
          split at h
          · rename_i m r1 hg
            injection h with h
            injection h with e1 e2
            obtain ⟨p, hp, hq⟩ := getV_other l (i + 1) m r1 r' hg
            refine ⟨x :: p, by rw [hp, ← e2]; rfl, ?_⟩
            show getV i (x :: (p ++ r')) = _
            unfold getV
            rw [if_neg h1, if_neg h2, if_neg h3, hq]
            simp only
            rw [e1]
          · cases h
theorem getF_other {l p r : List UInt8} (h : getF l = .ok (p, r)) (r' : List UInt8) : ∃ f, l = f ++ r ∧ f ≠ [] ∧ getF (f ++ r') = .ok (p, r') := by
  unfold getF at h
  split at h
  · split at h <;> cases h
  · rename_i n r0 hg
    split at h
    · cases h
    · rename_i h1
      split at h
      · cases h
      · rename_i h2
        split at h
        · rename_i h3
          injection h with h
          injection h with e1 e2
          obtain ⟨v, hv, hq⟩ := getV_other l 0 n r0 (r0.take (4 + n) ++ r') hg
          have hvn : v ≠ [] := by
            obtain ⟨_, _, q, hq2, hqn⟩ := getV_lt l 0 n r0 hg
            rw [hv] at hq2
            rw [List.append_cancel_right hq2]
            exact hqn
          refine ⟨v ++ r0.take (4 + n), by rw [hv, ← e2, List.append_assoc, List.take_append_drop], by simp [hvn], ?_⟩
          unfold getF
          rw [List.append_assoc, hq]
          simp only
          have hl4 : (r0.take (4 + n)).length = 4 + n := by rw [List.length_take]; omega
          rw [if_neg h1, if_neg (by rw [List.length_append, hl4]; omega)]
          have e3 : (v ++ (r0.take (4 + n) ++ r')).length - (r0.take (4 + n) ++ r').length = v.length := by rw [List.length_append]; omega
          have e4 : l.length - r0.length = v.length := by rw [hv, List.length_append]; omega
          have e5 : ((r0.take (4 + n) ++ r').drop 4).take n = (r0.drop 4).take n := by
            rw [List.drop_append_of_le_length (by omega), List.take_append_of_le_length (by rw [List.length_drop]; omega), List.drop_take, List.take_take]
            congr 1
            omega
          have e6 : (r0.take (4 + n) ++ r').take 4 = r0.take 4 := by
            rw [List.take_append_of_le_length (by omega), List.take_take]
            congr 1
            omega
          have e7 : (r0.take (4 + n) ++ r').drop (4 + n) = r' := List.drop_left' hl4
          rw [e4, hv, List.take_left' rfl] at h3
          rw [e3, List.take_left' rfl, e5, e6, e7, if_pos h3, e1]
        · cases h
theorem getF_less {l p r : List UInt8} (h : getF l = .ok (p, r)) : r.length < l.length ∧ p.length ≤ 16777216 ∧ p.length ≤ l.length := by
  obtain ⟨f, hf, hne, _⟩ := getF_other h []
  have hpos := List.length_pos_iff.2 hne
  refine ⟨by rw [hf, List.length_append]; omega, ?_⟩
  unfold getF at h
  split at h
  · split at h <;> cases h
  · rename_i n r0 hg
    obtain ⟨_, _, q, hq, _⟩ := getV_lt l 0 n r0 hg
    split at h
    · cases h
    · split at h
      · cases h
      · split at h
        · injection h with h
          injection h with e1 e2
          rw [← e1, List.length_take, List.length_drop, hq, List.length_append]
          omega
        · cases h
theorem getF_code {l : List UInt8} {k : Nat} (h : getF l = .error k) : k = 40 ∨ k = 41 := by
  unfold getF at h
  split at h
  · split at h <;> (injection h with h; omega)
  · split at h
    · injection h with h; omega
    · split at h
      · injection h with h; omega
      · split at h
        · cases h
        · injection h with h; omega
end Go.Proofs.YtohphanbnhiodaaGreat

/- loggia/frame: Put. -/
namespace Go.Proofs.YtohphanbnhiodaaGreat
open Go.RowKit

theorem u8_mod (k : Nat) : B8 (UInt8.ofNat (k % 256)) = .int .u8 ((k % 256 : Nat) : Int) := by
  unfold B8
  rw [UInt8.toNat_ofNat']
  congr 2
  omega
theorem be4_B8 {s : Nat} (h : s < 4294967296) : [.int .u8 ((s : Int) / 16777216), .int .u8 ((s : Int) / 65536 % 256), .int .u8 ((s : Int) / 256 % 256), .int .u8 ((s : Int) % 256)] = (be4 s).map B8 := by
  unfold be4
  rw [List.map_cons, List.map_cons, List.map_cons, List.map_cons, List.map_nil, u8_mod, u8_mod, u8_mod, u8_mod]
  congr 2
  · omega
theorem wrap_u64' {m : Nat} (h : m < 18446744073709551616) : IntKind.u64.wrap (m : Int) = (m : Int) := by
  simp [IntKind.wrap, IntKind.bits, IntKind.signed]
  omega
/-- What Put answers. -/
def PutP (w : World) (l : List UInt8) (e : Ending) (w' : World) : Prop := ∃ A c, e = .returned (.tuple #[.slice A l.length c, .int .i64 0]) ∧ Buf w' w.heap.size 5 A l.length c (l.map B8) ∧ Ext w w'
set_option maxRecDepth 100000 in
set_option maxHeartbeats 2000000 in
theorem fput_any (A : Option Addr) (n c : Nat) (l : List UInt8) (B : Option Addr) (m d : Nat) (p : List UInt8) (w : World) (hl : In8 w A n c l) (hp : In8 w B m d p) (hn : n ≤ 900000000) (hm : m ≤ 16777216) :
    Calls Tryz.prog 38 #[.slice A n c, .slice B m d] w fun e w' => PutP w (l ++ frameL p) e w' := by
  have hpt := hide (put_any none 0 0 m [] w rfl (.inl rfl) (fun _ => rfl) (by omega) (by omega))
  have hml := hp.len
  have hnl := hl.len
  have h10 := vb_len10 (n := m) (by omega)
  have hwm := wrap_u64' (m := m) (by omega)
  have hm' : ¬ (16777216 : Int) < m := by omega
  obtain ⟨V, hV⟩ : ∃ V, V = vb m := ⟨_, rfl⟩
  rw [List.nil_append, ← hV] at hpt
  rw [← hV] at h10
  have hfr : l ++ frameL p = l ++ (V ++ (be4 (cnext 0 (V ++ p)) ++ p)) := by unfold frameL; rw [← hml, ← hV, List.append_assoc]
  have hlt := cnext_lt 0 (V ++ p)
  have hcs : csum 0 [V, p] = cnext 0 (V ++ p) := cnext_app V p
  obtain ⟨s, hs⟩ : ∃ s, s = cnext 0 (V ++ p) := ⟨_, rfl⟩
  rw [← hs] at hfr hlt hcs
  rw [hfr]
  obtain ⟨R, hR⟩ : ∃ R, R = l ++ (V ++ (be4 s ++ p)) := ⟨_, rfl⟩
  rw [← hR]
  replace hR := hide hR
  have hb4 := be4_B8 hlt
  replace hml := hide hml
  replace hnl := hide hnl
  replace hV := hide hV
  clear hs hfr
  go_enter Tryz.func38, Tryz.ntmps38
  go_wp2_with fail
  refine hpt.out.mono ?_
  rintro e w1 ⟨A1, c1, rfl, hb1, hE1⟩
  have hin1 := hb1.in8
  obtain ⟨w2, hw2⟩ : ∃ w2, w2 = w1.alloc (.cells #[.slice A1 V.length c1, .slice B m d] 34) := ⟨_, rfl⟩
  have hE2 : Ext w1 w2 := by rw [hw2]; exact (Ext.refl w1).alloc _
  have hr2 : Row w2 w1.heap.size 34 #[.slice A1 V.length c1, .slice B m d] := by rw [hw2]; exact Row.new w1 _ _
  have hsm := sum_any (some ⟨w1.heap.size, 0, none⟩) 2 2 [(A1, c1, V), (B, d, p)] w2 rfl (.inr ⟨w1.heap.size, 0, rfl, fun i v hv => by
      rw [Nat.zero_add]
      exact hr2.cell i (by rw [hml.out]; simpa using hv)⟩) (fun q hq => by
      rcases List.mem_cons.1 hq with rfl | hq
      · exact hin1.ext hE2
      · rw [List.mem_singleton.1 hq]
        have := (hp.ext hE1).ext hE2
        rw [hml.out] at this
        exact this) (fun q hq => by
      rcases List.mem_cons.1 hq with rfl | hq
      · simp only; omega
      · rw [List.mem_singleton.1 hq]; simp only; have := hml.out; omega) (by omega)
  rw [show ([(A1, c1, V), (B, d, p)].map fun p : Option Addr × Nat × List UInt8 => p.2.2) = [V, p] from rfl, hcs] at hsm
  replace hsm := hide hsm
  replace hw2 := hide hw2
  replace hb4 := hide hb4
  replace hin1 := hide hin1
  clear hb1 hcs hr2
  go_wp2_with fail
  rw [← hw2.out]
  refine hsm.out.mono ?_
  rintro e w3 ⟨rfl, hE3⟩
  go_wp2_with fail
  obtain ⟨g, hg⟩ : ∃ g, g = w3.heap.size := ⟨_, rfl⟩
  obtain ⟨w4, hw4⟩ : ∃ w4, w4 = w3.alloc (.cells #[.int .u8 ((s : Int) / 16777216), .int .u8 ((s : Int) / 65536 % 256), .int .u8 ((s : Int) / 256 % 256), .int .u8 ((s : Int) % 256)] 5) := ⟨_, rfl⟩
  have hE4 : Ext w3 w4 := by rw [hw4]; exact (Ext.refl w3).alloc _
  have hb : Buf w4 g 5 (some ⟨g, 0, none⟩) 4 4 ((be4 s).map B8) := by
    have h := buf_new w3 [.int .u8 ((s : Int) / 16777216), .int .u8 ((s : Int) / 65536 % 256), .int .u8 ((s : Int) / 256 % 256), .int .u8 ((s : Int) % 256)] 5 (by simp)
    rw [hw4, hg, ← hb4.out]
    exact h
  have hs4 : w4.heap.size = g + 1 := by rw [hw4, hg]; simp
  obtain ⟨w5, hw5⟩ : ∃ w5, w5 = w4.alloc (.cells #[.slice A n c, .slice A1 V.length c1, .slice (some ⟨g, 0, none⟩) 4 4, .slice B m d] 34) := ⟨_, rfl⟩
  have hE5 : Ext w4 w5 := by rw [hw5]; exact (Ext.refl w4).alloc _
  have hr5 : Row w5 (g + 1) 34 #[.slice A n c, .slice A1 V.length c1, .slice (some ⟨g, 0, none⟩) 4 4, .slice B m d] := by rw [hw5, ← hs4]; exact Row.new w4 _ _
  have hEw3 := ((hE1.trans hE2).trans hE3)
  have hcc := concat_any (some ⟨g + 1, 0, none⟩) 4 4 [(A, c, l), (A1, c1, V), (some ⟨g, 0, none⟩, 4, be4 s), (B, d, p)] w5 rfl (.inr ⟨g + 1, 0, rfl, fun i v hv => by
      rw [Nat.zero_add]
      refine hr5.cell i ?_
      have e4 : (be4 s).length = 4 := rfl
      rw [hml.out, hnl.out]
      simpa [e4] using hv⟩) (fun q hq => by
      have e4 : (be4 s).length = 4 := rfl
      simp only [List.mem_cons, List.not_mem_nil, or_false] at hq
      rcases hq with rfl | rfl | rfl | rfl
      · have := (hl.ext hEw3).ext (hE4.trans hE5)
        rw [hnl.out] at this
        exact this
      · exact hin1.out.ext ((hE2.trans hE3).trans (hE4.trans hE5))
      · exact hb.in8.ext hE5
      · have := (hp.ext hEw3).ext (hE4.trans hE5)
        rw [hml.out] at this
        exact this) (by
      have e4 : (be4 s).length = 4 := rfl
      unfold catL
      simp only [List.flatMap_cons, List.flatMap_nil, List.length_append, List.length_nil, e4]
      have := hml.out
      have := hnl.out
      omega) (by omega)
  have hcat : catL [(A, c, l), (A1, c1, V), (some ⟨g, 0, none⟩, 4, be4 s), (B, d, p)] = l ++ (V ++ (be4 s ++ p)) := by unfold catL; simp
  rw [hcat] at hcc
  rw [← hR.out] at hcc
  have hE05 := hEw3.trans (hE4.trans hE5)
  rw [hw5, hw4, hg] at hcc hE05
  replace hE05 := hide hE05
  refine hcc.mono ?_
  rintro e w6 ⟨A6, c6, rfl, hb6, hE6⟩
  replace hb6 := hide (hb6.lower hE05.out.size)
  have hE06 := hide (hE05.out.trans hE6)
  clear hE6 hcc hcat hw4 hw5 hs4 hg hr5 hb
  go_wp2_with fail
  go_ret2
  exact ⟨A6, c6, rfl, hb6.out, hE06.out⟩
end Go.Proofs.YtohphanbnhiodaaGreat

/- loggia/frame: Get. -/
namespace Go.Proofs.YtohphanbnhiodaaGreat
open Go.RowKit

theorem getV_code : ∀ (l : List UInt8) (i k : Nat), getV i l = .error k → k = 6 ∨ k = 20
  | [], i, k, h => by unfold getV at h; injection h with h; omega
  | x :: l, i, k, h => by
    unfold getV at h
    split at h
    · injection h with h; omega
    · split at h
      · injection h with h; omega
      · split at h
        · cases h
        · split at h
          · cases h
          · rename_i e hg
            injection h with h
            subst h
            exact getV_code l (i + 1) _ hg
/-- What a frame is told to be. -/
def GotF (w0 w : World) (res : Except Nat (List UInt8 × List UInt8)) (e : Ending) (w' : World) : Prop := Ext w w' ∧ match res with
  | .ok (p, r) => ∃ P cp A c, e = .returned (.tuple #[.slice P p.length cp, .slice A r.length c, .int .i64 0]) ∧ In8 w' P p.length cp p ∧ In8 w0 A r.length c r
  | .error k => e = .returned (.tuple #[.slice none 0 0, .slice none 0 0, .int .i64 k])
theorem be_snoc (l : List UInt8) (x : UInt8) : be (l ++ [x]) = be l * 256 + x.toNat := by
  unfold be
  rw [List.foldl_append]
  rfl
theorem be_fold : ∀ (l : List UInt8) (s k : Nat), s < 256 ^ k → l.foldl (fun s x => s * 256 + x.toNat) s < 256 ^ (k + l.length)
  | [], s, k, h => h
  | x :: l, s, k, h => by
    have hx := x.toNat_lt
    have h1 : s * 256 + x.toNat < 256 ^ (k + 1) := by rw [Nat.pow_succ]; omega
    have h2 := be_fold l (s * 256 + x.toNat) (k + 1) h1
    rw [List.foldl_cons, List.length_cons, show k + (l.length + 1) = k + 1 + l.length by omega]
    exact h2
theorem be_lt (l : List UInt8) : be l < 256 ^ l.length := by
  have h := be_fold l 0 0 (by decide)
  rw [Nat.zero_add] at h
  exact h
theorem GotF.no {w0 w w' : World} {res : Except Nat (List UInt8 × List UInt8)} {k : Nat} (hE : Ext w w') (h : res = .error k) : GotF w0 w res (.returned (.tuple #[.slice none 0 0, .slice none 0 0, .int .i64 k])) w' := by
  subst h
  exact ⟨hE, rfl⟩
set_option maxRecDepth 100000 in
set_option maxHeartbeats 4000000 in
theorem fget_any (A : Option Addr) (n c : Nat) (l : List UInt8) (w0 w : World) (h : In8 w0 A n c l) (hw : Ext w0 w) (hle : n ≤ 1000000000) :
    Calls Tryz.prog 81 #[.slice A n c] w fun e w' => GotF w0 w (getF l) e w' := by
  have hg := get_any A n c l w0 w h hw hle
  have hln := hide h.len
  obtain ⟨Z, hZ⟩ : ∃ Z, Z = getF l := ⟨_, rfl⟩
  rw [← hZ]
  unfold getF at hZ
  cases hv : getV 0 l with
  | error k =>
    rw [hv] at hg hZ
    simp only at hZ
    rcases getV_code l 0 k hv with rfl | rfl
    · rw [if_pos rfl] at hZ
      replace hZ := hide hZ
      replace hg := hide hg
      clear h hv
      go_enter Tryz.func81, Tryz.ntmps81
      go_wp2_with fail
      refine hg.out.mono ?_
      rintro e w1 ⟨hE1, rfl⟩
      go_wp2_with fail
      go_ret3
      exact GotF.no hE1 hZ.out
    · rw [if_neg (by omega)] at hZ
      replace hZ := hide hZ
      replace hg := hide hg
      clear h hv
      go_enter Tryz.func81, Tryz.ntmps81
      go_wp2_with fail
      refine hg.out.mono ?_
      rintro e w1 ⟨hE1, rfl⟩
      go_wp2_with fail
      go_ret3
      exact GotF.no hE1 hZ.out
  | ok p =>
    obtain ⟨m, r⟩ := p
    have hm64 := getV_lt64 hv
    have hrl := getV_less hv
    obtain ⟨hd, hhd, hhq⟩ := getV_other l 0 m r [] hv
    have hpre : l.length - r.length = hd.length := by rw [hhd, List.length_append]; omega
    rw [hv] at hg hZ
    simp only at hZ
    unfold Got at hg
    simp only at hg
    replace hg := hide hg
    clear hv hhq
    by_cases hbig : 16777216 < m
    · rw [if_pos hbig] at hZ
      replace hZ := hide hZ
      have hb' : (16777216 : Int) < m := by omega
      clear h
      go_enter Tryz.func81, Tryz.ntmps81
      go_wp2_with fail
      refine hg.out.mono ?_
      rintro e w1 ⟨hE1, A1, c1, rfl, hi1⟩
      go_wp2_with fail
      go_ret3
      exact GotF.no hE1 hZ.out
    · rw [if_neg hbig] at hZ
      have hb' : ¬ (16777216 : Int) < m := by omega
      have hwm : IntKind.i64.wrap (m : Int) = (m : Int) := by
        simp [IntKind.wrap, IntKind.bits, IntKind.signed]
        omega
      by_cases hsh : r.length < 4 + m
      · rw [if_pos hsh] at hZ
        replace hZ := hide hZ
        have hs' : (r.length : Int) < 4 + (m : Int) := by omega
        clear h
        go_enter Tryz.func81, Tryz.ntmps81
        go_wp2_with fail
        refine hg.out.mono ?_
        rintro e w1 ⟨hE1, A1, c1, rfl, hi1⟩
        go_wp2_with fail
        go_ret3
        exact GotF.no hE1 hZ.out
      · rw [if_neg hsh] at hZ
        have hs' : ¬ (r.length : Int) < 4 + (m : Int) := by omega
        obtain ⟨hhr, hhi⟩ := h.headk .i64 (k := l.length - r.length) (by have := hln.out; omega) (z := (n : Int) - (r.length : Int)) (by have := hln.out; omega)
        rw [hpre] at hhr hhi
        have hrn : r.length ≤ n := by have := hln.out; omega
        have hrn2 : r.length ≤ 1000000000 := by omega
        replace hZ := hide hZ
        replace hhi := hide hhi
        replace hpre := hide hpre
        replace hhd := hide hhd
        clear h hrl
        go_enter Tryz.func81, Tryz.ntmps81
        go_wp2_with fail
        refine hg.out.mono ?_
        rintro e w1 ⟨hE1, A1, c1, rfl, hi1⟩
        obtain ⟨h4r, h4i⟩ := hi1.headk .i64 (k := 4) (by omega) (z := 4) rfl
        obtain ⟨A2, c2, hpr, hpi⟩ := hi1.subk .i64 .i64 (fr := 4) (k := m) (by omega) (z0 := 4) (z := 4 + (m : Int)) rfl rfl
        obtain ⟨A3, c3, htr, hti⟩ := hi1.fromk .i64 (fr := 4 + m) (by omega) (z := 4 + (m : Int)) (by omega)
        replace h4i := hide h4i
        replace hpi := hide hpi
        replace hti := hide hti
        replace hi1 := hide hi1
        go_wp2_with fail
        go_loopw [7, 9, 43] (fun s7 _ s43 wr => ∃ (i v : Nat), s43 = .int .i64 (i : Int) ∧ i ≤ 4 ∧ s7 = .int .u32 (v : Int) ∧ v < 256 ^ i ∧ Hid (v = be (r.take i)) ∧ wr = w1) (fun _ _ s43 _ => 4 - (intOf s43).toNat)
        case atStart => exact ⟨0, 0, rfl, by omega, rfl, by decide, hide (by simp [be]), rfl⟩
        case round =>
          obtain ⟨i, v, rfl, hi, rfl, hv, hvb, rfl⟩ := hrel
          by_cases hi4 : i < 4
          · obtain ⟨x, hx⟩ : ∃ x, r[i]? = some x := ⟨_, List.getElem?_eq_getElem (by omega)⟩
            have htk : be (r.take (i + 1)) = v * 256 + x.toNat := by rw [take_one2 hx, be_snoc, hvb.out]
            have hx8 := x.toNat_lt
            have hpw : (256 : Nat) ^ i ≤ 256 ^ 3 := Nat.pow_le_pow_right (by omega) (by omega)
            have hv24 : v < 16777216 := by omega
            have hor : bits .or .u32 ((v : Int) * 256) (x.toNat : Int) = ((v * 256 + x.toNat : Nat) : Int) := by
              have h1 := u32_or_nat (v * 256) x.toNat (by omega) (by omega)
              have h2 := Nat.shiftLeft_add_eq_or_of_lt (show x.toNat < 2 ^ 8 by omega) v
              rw [Nat.shiftLeft_eq] at h2
              rw [show (2 : Nat) ^ 8 = 256 from rfl] at h2
              rw [h2, ← h1]
              simp
            have hnext : v * 256 + x.toNat < 256 ^ (i + 1) := by rw [Nat.pow_succ]; omega
            obtain ⟨g, o, hA1, hc⟩ := Cells.at_ (xs := (r.take 4).map B8) (h4i.out.bytes.ext (hw.trans hE1)) (by rw [List.length_map, List.length_take]; omega)
            have hcell := hc i (B8 x) (by rw [List.getElem?_map, List.getElem?_take, if_pos hi4, hx]; rfl)
            unfold B8 at hcell
            subst hA1
            replace htk := hide htk
            replace hnext := hide hnext
            obtain ⟨nx, hnx⟩ : ∃ nx, nx = v * 256 + x.toNat := ⟨_, rfl⟩
            rw [← hnx] at hor htk hnext
            replace hnx := hide hnx
            clear hx hc
            go_wp2_with fail
            refine ⟨⟨i + 1, nx, by go_num, by omega, rfl, hnext.out, hide htk.out.symm, trivial⟩, ?_⟩
            simp [intOf]
            omega
          · obtain rfl : i = 4 := by omega
            have hpl : ((r.drop 4).take m).length = m := by rw [List.length_take, List.length_drop]; omega
            have hhl : (l.take hd.length).length = hd.length := by rw [List.length_take, hhd.out, List.length_append]; omega
            have hdl : (r.drop (4 + m)).length = r.length - (4 + m) := List.length_drop
            have hE0 := hw.trans hE1
            have hpin := hpi.out.ext hE0
            obtain ⟨pl, hpld⟩ : ∃ pl, pl = (r.drop 4).take m := ⟨_, rfl⟩
            obtain ⟨hh, hhhd⟩ : ∃ hh, hh = l.take hd.length := ⟨_, rfl⟩
            rw [← hpld] at hpl hpin
            have hhi2 := hhi.out
            rw [← hhhd] at hhl hhi2
            have hcl := hide (clone_any A2 m c2 pl wr hpl.symm hpin.bytes hpin.nil_ (by omega))
            have hz2 := hZ.out
            rw [hpre.out, ← hhhd, ← hpld, ← hvb.out] at hz2
            replace hz2 := hide hz2
            replace hpld := hide hpld
            replace hhhd := hide hhhd
            replace hpl := hide hpl
            replace hhl := hide hhl
            replace hdl := hide hdl
            have hv32 : v < 4294967296 := hv
            clear hpin
            go_wp2_with fail
            refine hcl.out.mono ?_
            rintro e w3 ⟨P, cp, rfl, hb3, hE3⟩
            have hin3 := hb3.in8
            obtain ⟨w4, hw4⟩ : ∃ w4, w4 = w3.alloc (.cells #[.slice A hd.length c, .slice P m cp] 34) := ⟨_, rfl⟩
            have hE4 : Ext w3 w4 := by rw [hw4]; exact (Ext.refl w3).alloc _
            have hr4 : Row w4 w3.heap.size 34 #[.slice A hd.length c, .slice P m cp] := by rw [hw4]; exact Row.new w3 _ _
            have hsm := sum_any (some ⟨w3.heap.size, 0, none⟩) 2 2 [(A, c, hh), (P, cp, pl)] w4 rfl (.inr ⟨w3.heap.size, 0, rfl, fun i v hv => by
                rw [Nat.zero_add]
                refine hr4.cell i ?_
                have e1 := hhl.out
                have e2 := hpl.out
                simpa [e1, e2] using hv⟩) (fun q hq => by
                rcases List.mem_cons.1 hq with rfl | hq
                · have h := (hhi2.ext hE0).ext (hE3.trans hE4)
                  simp only
                  rw [hhl.out]
                  exact h
                · rw [List.mem_singleton.1 hq]
                  have h := hin3.ext hE4
                  simp only
                  rw [hpl.out]
                  exact h) (fun q hq => by
                rcases List.mem_cons.1 hq with rfl | hq
                · simp only; rw [hhl.out]; have := hln.out; have := hpre.out; omega
                · rw [List.mem_singleton.1 hq]; simp only; rw [hpl.out]; omega) (by omega)
            rw [show ([(A, c, hh), (P, cp, pl)].map fun p : Option Addr × Nat × List UInt8 => p.2.2) = [hh, pl] from rfl, show csum 0 [hh, pl] = cnext 0 (hh ++ pl) from cnext_app hh pl] at hsm
            obtain ⟨s, hs⟩ : ∃ s, s = cnext 0 (hh ++ pl) := ⟨_, rfl⟩
            have hz3 := hz2.out
            rw [← hs] at hsm hz3
            have hE14 := hide (hE1.trans (hE3.trans hE4))
            replace hsm := hide hsm
            replace hw4 := hide hw4
            replace hin3 := hide (hin3.ext hE4)
            replace hs := hide hs
            clear hb3 hr4 hE0 hhi2
            by_cases hsv : s = v
            · subst hsv
              rw [if_pos rfl] at hz3
              replace hz3 := hide hz3
              go_wp2_with fail
              rw [← hw4.out]
              refine hsm.out.mono ?_
              rintro e w5 ⟨rfl, hE5⟩
              have hE15 := hide (hE14.out.trans hE5)
              have hin5 := hide (hin3.out.ext hE5)
              go_wp2_with fail
              refine wp_region_text follows (by kernel_rfl) (by kernel_rfl) (fun K hK => ?_)
              go_wp2_with fail
              refine ⟨by kernel_rfl, ?_⟩
              go_wp2_with fail
              go_ret3
              rw [hz3.out]
              exact ⟨hE15.out.drew, P, cp, A3, c3, by rw [hpl.out, hdl.out]; rfl, by rw [hpl.out]; exact hin5.out.ext (Ext.refl w5).drew, by rw [hdl.out]; exact hti.out⟩
            · have hsv' : ¬ (s : Int) = v := by omega
              rw [if_neg hsv] at hz3
              replace hz3 := hide hz3
              go_wp2_with fail
              rw [← hw4.out]
              refine hsm.out.mono ?_
              rintro e w5 ⟨rfl, hE5⟩
              have hE15 := hide (hE14.out.trans hE5)
              go_wp2_with fail
              go_ret3
              exact GotF.no hE15.out hz3.out
end Go.Proofs.YtohphanbnhiodaaGreat

/- What the bytes of a file tell, plainly. -/
namespace Go.Proofs.YtohphanbnhiodaaGreat
open Go.RowKit

/-- May a batch that begins at q stand here? -/
def okN (nx : Option Int) (q : Int) : Prop := match nx with
  | none => True
  | some n => q = n
open Classical in
noncomputable def scanM : Nat → Option Int → List UInt8 → List Bt × Nat × Nat
  | 0, _, _ => ([], 0, 0)
  | k + 1, nx, b => if b = [] then ([], 0, 0) else match getF b with
    | .error e => ([], 0, e)
    | .ok (p, r) => match decB p with
      | none => ([], 0, 150)
      | some bt => if okN nx bt.seq then (bt :: (scanM k (some (bt.seq + bt.es.length)) r).1, b.length - r.length + (scanM k (some (bt.seq + bt.es.length)) r).2.1, (scanM k (some (bt.seq + bt.es.length)) r).2.2) else ([], 0, 150)
def aheadS (read : List Bt) (n : Nat) (x : List Bt × Nat × Nat) : List Bt × Nat × Nat := (read ++ x.1, n + x.2.1, x.2.2)
theorem aheadS_nil (x : List Bt × Nat × Nat) : aheadS [] 0 x = x := by
  obtain ⟨a, b, c⟩ := x
  simp [aheadS]
theorem scan_end {Z : List Bt × Nat × Nat} {read : List Bt} {n k : Nat} {nx : Option Int} (h : Z = aheadS read n (scanM k nx [])) : Z = (read, n, 0) := by
  cases k with
  | zero => rw [h]; unfold scanM aheadS; simp
  | succ k => rw [h]; unfold scanM aheadS; simp
section
variable {Z : List Bt × Nat × Nat} {read : List Bt} {n k : Nat} {nx : Option Int} {b : List UInt8} (h : Z = aheadS read n (scanM k nx b)) (hk : b.length ≤ k) (hb : b ≠ [])
include h hk hb
theorem scan_err {e : Nat} (hg : getF b = .error e) : Z = (read, n, e) := by
  have := List.length_pos_iff.2 hb
  obtain ⟨j, rfl⟩ : ∃ j, k = j + 1 := ⟨k - 1, by omega⟩
  rw [h]
  unfold scanM
  rw [if_neg hb, hg]
  unfold aheadS
  simp
theorem scan_dec {p r : List UInt8} (hg : getF b = .ok (p, r)) (hd : decB p = none) : Z = (read, n, 150) := by
  have := List.length_pos_iff.2 hb
  obtain ⟨j, rfl⟩ : ∃ j, k = j + 1 := ⟨k - 1, by omega⟩
  rw [h]
  unfold scanM
  rw [if_neg hb, hg]
  simp only
  rw [hd]
  unfold aheadS
  simp
theorem scan_seq {p r : List UInt8} {bt : Bt} (hg : getF b = .ok (p, r)) (hd : decB p = some bt) (hs : ¬ okN nx bt.seq) : Z = (read, n, 150) := by
  have := List.length_pos_iff.2 hb
  obtain ⟨j, rfl⟩ : ∃ j, k = j + 1 := ⟨k - 1, by omega⟩
  rw [h]
  unfold scanM
  rw [if_neg hb, hg]
  simp only
  rw [hd]
  simp only
  rw [if_neg hs]
  unfold aheadS
  simp
theorem scan_step {p r : List UInt8} {bt : Bt} (hg : getF b = .ok (p, r)) (hd : decB p = some bt) (hs : okN nx bt.seq) : Z = aheadS (read ++ [bt]) (n + (b.length - r.length)) (scanM (k - 1) (some (bt.seq + bt.es.length)) r) := by
  have := List.length_pos_iff.2 hb
  obtain ⟨j, rfl⟩ : ∃ j, k = j + 1 := ⟨k - 1, by omega⟩
  rw [h]
  conv => lhs; unfold scanM
  rw [if_neg hb, hg]
  simp only
  rw [hd]
  simp only
  rw [if_pos hs]
  unfold aheadS
  simp only [Nat.add_sub_cancel, List.append_assoc, List.singleton_append, Nat.add_assoc]
end
theorem getF_small {l p r : List UInt8} (h : getF l = .ok (p, r)) : p.length + r.length < l.length := by
  unfold getF at h
  split at h
  · split at h <;> cases h
  · rename_i n r0 hg
    have hl := getV_less hg
    split at h
    · cases h
    · split at h
      · cases h
      · split at h
        · injection h with h
          injection h with e1 e2
          rw [← e1, ← e2, List.length_take, List.length_drop, List.length_drop]
          omega
        · cases h
/-- A row of batches of a call's own, with their own events. -/
structure BtsOwn (w : World) (base : Nat) (A : Option Addr) (c : Nat) (l : List BtC) : Prop where
  own : w.ownsRow base 80 2 (.slice A l.length c) l.length (bcells l)
  each : ∀ x ∈ l, EvsOwn w base x.A x.c x.l ∧ x.l.length ≤ 64 ∧ 1 ≤ x.seq ∧ x.seq ≤ 1099511627776
theorem BtsOwn.nil (w : World) (base : Nat) : BtsOwn w base none 0 [] := ⟨⟨rfl, .inl ⟨rfl, rfl⟩⟩, nofun⟩
theorem BtsOwn.ext {w w' : World} {base c : Nat} {A : Option Addr} {l : List BtC} (h : BtsOwn w base A c l) (hE : Ext w w') : BtsOwn w' base A c l := ⟨hE.owns h.own, fun x hx => ⟨(h.each x hx).1.ext hE, (h.each x hx).2⟩⟩
theorem BtsOwn.ok {w : World} {base c : Nat} {A : Option Addr} {l : List BtC} (h : BtsOwn w base A c l) : BsOk w A l := ⟨Cells.of_own h.own, fun x hx => ⟨(h.each x hx).1.ok, by have := (h.each x hx).2; omega, by have := (h.each x hx).2; unfold I64ok'; omega⟩⟩
/-- What Scan answers. -/
def ScanP (w : World) (Z : List Bt × Nat × Nat) (e : Ending) (w' : World) : Prop := Ext w w' ∧ ∃ (l : List BtC) (A : Option Addr) (c : Nat), Z.1 = l.map BtC.bt ∧ e = .returned (.tuple #[.slice A l.length c, .int .i64 (Z.2.1 : Nat), .int .i64 (Z.2.2 : Nat)]) ∧ BtsOwn w' w.heap.size A c l
theorem ScanP.mk {w w' : World} {Z : List Bt × Nat × Nat} {l : List BtC} {A : Option Addr} {m c n k : Nat} (hE : Ext w w') (hZ : Z = (l.map BtC.bt, n, k)) (hm : m = l.length) (h : BtsOwn w' w.heap.size A c l) :
    ScanP w Z (.returned (.tuple #[.slice A m c, .int .i64 (n : Int), .int .i64 (k : Int)])) w' := by
  subst hZ hm
  exact ⟨hE, l, A, c, rfl, rfl, h⟩
set_option maxRecDepth 100000 in
theorem elemBt : Elem Tryz.prog 33 80 2 32 := ⟨Tryz.underlying33, ⟨_, _, rfl, rfl, rfl, rfl, rfl⟩, by omega, by omega⟩
end Go.Proofs.YtohphanbnhiodaaGreat

/- loggia/event: put, Encode. -/
namespace Go.Proofs.YtohphanbnhiodaaGreat
open Go.RowKit

/-- A row of bytes of the call's own, as a slice. -/
def Own8 (w : World) (base : Nat) (A : Option Addr) (n c : Nat) (l : List UInt8) : Prop := n = l.length ∧ Buf w base 5 A n c (l.map B8)
theorem Own8.nil_ {w : World} {base : Nat} {A : Option Addr} {n c : Nat} {l : List UInt8} (h : Own8 w base A n c l) : A = none → c = 0 := fun hA => by
  obtain ⟨_, _, _, h3⟩ := h
  rcases h3 with ⟨_, h3⟩ | ⟨g, cur, hB, _⟩
  · exact h3
  · rw [hA] at hB; cases hB
theorem NewB.own {w w0 w' : World} {l : List UInt8} {e : Ending} (h : NewB w l e w') (hb : w0.heap.size ≤ w.heap.size) : ∃ A c, e = .returned (.slice A l.length c) ∧ Own8 w' w0.heap.size A l.length c l ∧ Ext w w' := by
  obtain ⟨A, c, he, hb', hE⟩ := h
  exact ⟨A, c, he, ⟨rfl, hb'.lower hb⟩, hE⟩
theorem wrap_u64 {m : Nat} (h : m < 18446744073709551616) : IntKind.u64.wrap (m : Int) = (m : Int) := by
  simp [IntKind.wrap, IntKind.bits, IntKind.signed]
  omega
theorem putFs_take {fs : List Fd} {i : Nat} {f : Fd} (h : fs[i]? = some f) : putFs (fs.take (i + 1)) = putFs (fs.take i) ++ txL f.1 ++ txL f.2 := by
  unfold putFs
  rw [take_one2 h, List.flatMap_append]
  simp [putF]
theorem putFs_take_len {fs : List Fd} (h : ∀ f ∈ fs, f.1.length ≤ 32 ∧ f.2.length ≤ 4096) (i : Nat) : (putFs (fs.take i)).length ≤ 5000 * fs.length := by
  have h1 := putFs_len (fs := fs.take i) fun f hf => h f (List.mem_of_mem_take hf)
  have h2 := sizeFs_le (fs := fs.take i) fun f hf => h f (List.mem_of_mem_take hf)
  have h3 := List.length_take_le i fs
  have h4 : ∀ {gs : List Fd}, (∀ f ∈ gs, f.1.length ≤ 32 ∧ f.2.length ≤ 4096) → sizeFs gs ≤ 4128 * gs.length := by
    intro gs
    induction gs with
    | nil => intro _; simp [sizeFs]
    | cons f gs ih =>
      intro h
      have h1 := ih fun x hx => h x (by simp [hx])
      have hf := h f (by simp)
      have h5 : sizeFs (f :: gs) = f.1.length + f.2.length + sizeFs gs := by unfold sizeFs; rw [List.map_cons, List.sum_cons]; rfl
      rw [h5, List.length_cons]
      omega
  have h5 := h4 (gs := fs.take i) fun f hf => h f (List.mem_of_mem_take hf)
  have h6 : (fs.take i).length ≤ fs.length := by rw [List.length_take]; omega
  omega
set_option maxRecDepth 100000 in
set_option maxHeartbeats 4000000 in
theorem evput_any (A : Option Addr) (n c : Nat) (l : List UInt8) (e : Ev) (B : Option Addr) (d : Nat) (w : World) (hn : n = l.length) (hl : Bs w A l) (hz : A = none → c = 0) (hle : n ≤ 100000000) (h : e.Ok w B) (hk : checkE e.fs = 0) (ha : I64ok' e.at_) :
    Calls Tryz.prog 71 #[.slice A n c, e.val B d] w fun en w' => NewB w (l ++ putE e) en w' := by
  obtain ⟨h16, hfl⟩ := checkE_fs hk
  have hput : l ++ putE e = (l ++ vb (zig e.at_) ++ vb e.fs.length) ++ putFs (e.fs.take e.fs.length) := by unfold putE; rw [List.take_length]; simp
  rw [hput]
  obtain ⟨at_, fs⟩ := e
  obtain ⟨hc, _, _⟩ := h
  unfold Ev.val
  simp only at hc h16 hfl ha ⊢
  have htl := putFs_take_len hfl
  obtain ⟨m, hm⟩ : ∃ m, m = fs.length := ⟨_, rfl⟩
  rw [← hm] at h16 htl ⊢
  obtain ⟨W, hW⟩ : ∃ W, W = w.alloc (.cells #[.int .i64 at_, .slice B m d] 89) := ⟨_, rfl⟩
  have hEW : Ext w W := by rw [hW]; exact (Ext.refl w).alloc _
  have hr : Row W w.heap.size 89 #[.int .i64 at_, .slice B m d] := by rw [hW]; exact Row.new w _ _
  obtain ⟨b, hb⟩ : ∃ b, b = w.heap.size := ⟨_, rfl⟩
  rw [← hb] at hr
  have h10 := vb_le10 (zig_lt ha.1 ha.2)
  have h10b := vb_le10 (n := m) (by omega)
  obtain ⟨L1, hL1⟩ : ∃ L1, L1 = l ++ vb (zig at_) := ⟨_, rfl⟩
  obtain ⟨L2, hL2⟩ : ∃ L2, L2 = L1 ++ vb m := ⟨_, rfl⟩
  have hl1 : L1.length ≤ 100000010 := by rw [hL1, List.length_append]; omega
  have hl2 : L2.length ≤ 100000020 := by rw [hL2, List.length_append]; omega
  rw [← hL1, ← hL2]
  have hS0 : W.cell? ⟨b, 0, none⟩ = some (.int .i64 at_) ∧ W.cell? ⟨b, 1, none⟩ = some (.slice B m d) ∧ Ext W W := ⟨hr.cell 0 rfl, hr.cell 1 rfl, Ext.refl W⟩
  have hS1 : W.drew.cell? ⟨b, 0, none⟩ = some (.int .i64 at_) ∧ W.drew.cell? ⟨b, 1, none⟩ = some (.slice B m d) ∧ Ext W W.drew := ⟨hr.cell 0 rfl, hr.cell 1 rfl, (Ext.refl W).drew⟩
  have hpi : ∀ x, (x.cell? ⟨b, 0, none⟩ = some (.int .i64 at_) ∧ x.cell? ⟨b, 1, none⟩ = some (.slice B m d) ∧ Ext W x) → Calls Tryz.prog 97 #[.slice A n c, .int .i64 at_] x fun e y => ∃ A1 c1, e = .returned (.slice A1 L1.length c1) ∧ Own8 y w.heap.size A1 L1.length c1 L1 ∧ (y.cell? ⟨b, 0, none⟩ = some (.int .i64 at_) ∧ y.cell? ⟨b, 1, none⟩ = some (.slice B m d) ∧ Ext W y) := fun x ⟨h0, h1, hE⟩ =>
    (putInt_any A n c at_ l x hn (hl.ext (hEW.trans hE)) hz (by omega) ha.1 ha.2).mono fun e y hy => by
      obtain ⟨A1, c1, he, hb1, hEy⟩ := NewB.own hy (hEW.trans hE).size
      rw [← hL1] at he hb1
      exact ⟨A1, c1, he, hb1, hEy.cell h0, hEy.cell h1, hE.trans hEy⟩
  have hpu : ∀ x A1 c1, Own8 x w.heap.size A1 L1.length c1 L1 → (x.cell? ⟨b, 0, none⟩ = some (.int .i64 at_) ∧ x.cell? ⟨b, 1, none⟩ = some (.slice B m d) ∧ Ext W x) → Calls Tryz.prog 70 #[.slice A1 L1.length c1, .int .u64 (m : Int)] x fun e y => ∃ A2 c2, e = .returned (.slice A2 L2.length c2) ∧ Own8 y w.heap.size A2 L2.length c2 L2 ∧ (y.cell? ⟨b, 0, none⟩ = some (.int .i64 at_) ∧ y.cell? ⟨b, 1, none⟩ = some (.slice B m d) ∧ Ext W y) := fun x A1 c1 hb1 ⟨h0, h1, hE⟩ =>
    (put_any A1 L1.length c1 m L1 x rfl hb1.2.cells hb1.nil_ (by omega) (by omega)).mono fun e y hy => by
      obtain ⟨A2, c2, he, hb2, hEy⟩ := NewB.own hy (hEW.trans hE).size
      rw [← hL2] at he hb2
      exact ⟨A2, c2, he, hb2, hEy.cell h0, hEy.cell h1, hE.trans hEy⟩
  replace hpi := hide hpi
  replace hpu := hide hpu
  replace hS0 := hide hS0
  replace hS1 := hide hS1
  have hwm := wrap_u64 (m := m) (by omega)
  replace hW := hide hW
  replace hm := hide hm
  replace hfl := hide hfl
  replace htl := hide htl
  replace hb := hide hb
  clear hL1 hL2 hput h10 h10b hl hz hn
  go_enter Tryz.func71, Tryz.ntmps71
  go_wp2_with fail
  rw [← hW.out, ← hb.out]
  refine wp_region_held_drew (S := fun x => x.cell? ⟨b, 0, none⟩ = some (.int .i64 at_) ∧ x.cell? ⟨b, 1, none⟩ = some (.slice B m d) ∧ Ext W x) (by kernel_rfl) hS1.out (fun hHeld => ?_)
  refine wpAnyH_take (i := 0) (v := .slice A n c) rfl (by kernel_rfl) (by kernel_rfl) (by kernel_rfl) (fun _ _ _ h => h) (Or.inl ⟨by rfl, ?_⟩) (by assumption) ?_
  · intro w' hSw
    (try dsimp only at hSw)
    obtain ⟨z1, z2, z3⟩ := hSw
    go_simp
    try with_reducible rfl
    all_goals omega
  (try simp only [Act.put, List.setIfInBounds_toArray, List.set_cons_zero, List.set_cons_succ, List.getElem_toArray, List.getElem_cons_zero, List.getElem_cons_succ])
  refine wpAnyH_take (i := 1) (v := .pointer (some ⟨b, 0, none⟩)) rfl (by kernel_rfl) (by kernel_rfl) (by kernel_rfl) (fun _ _ _ h => h) (Or.inl ⟨by rfl, ?_⟩) (by assumption) ?_
  · intro w' hSw
    (try dsimp only at hSw)
    obtain ⟨z1, z2, z3⟩ := hSw
    go_simp
    try with_reducible rfl
    all_goals omega
  (try simp only [Act.put, List.setIfInBounds_toArray, List.set_cons_zero, List.set_cons_succ, List.getElem_toArray, List.getElem_cons_zero, List.getElem_cons_succ])
  refine wpAnyH_take (i := 2) (v := .int .i64 at_) rfl (by kernel_rfl) (by kernel_rfl) (by kernel_rfl) (fun _ _ _ h => h) (Or.inl ⟨by rfl, ?_⟩) (by assumption) ?_
  · intro w' hSw
    (try dsimp only at hSw)
    obtain ⟨z1, z2, z3⟩ := hSw
    go_simp
    try with_reducible rfl
    all_goals omega
  (try simp only [Act.put, List.setIfInBounds_toArray, List.set_cons_zero, List.set_cons_succ, List.getElem_toArray, List.getElem_cons_zero, List.getElem_cons_succ])
  refine wpAnyH_take (i := 4) (v := .pointer (some ⟨b, 1, none⟩)) rfl (by kernel_rfl) (by kernel_rfl) (by kernel_rfl) (fun _ _ _ h => h) (Or.inl ⟨by rfl, ?_⟩) (by assumption) ?_
  · intro w' hSw
    (try dsimp only at hSw)
    obtain ⟨z1, z2, z3⟩ := hSw
    go_simp
    try with_reducible rfl
    all_goals omega
  (try simp only [Act.put, List.setIfInBounds_toArray, List.set_cons_zero, List.set_cons_succ, List.getElem_toArray, List.getElem_cons_zero, List.getElem_cons_succ])
  refine wpAnyH_take (i := 5) (v := .slice B m d) rfl (by kernel_rfl) (by kernel_rfl) (by kernel_rfl) (fun _ _ _ h => h) (Or.inl ⟨by rfl, ?_⟩) (by assumption) ?_
  · intro w' hSw
    (try dsimp only at hSw)
    obtain ⟨z1, z2, z3⟩ := hSw
    go_simp
    try with_reducible rfl
    all_goals omega
  (try simp only [Act.put, List.setIfInBounds_toArray, List.set_cons_zero, List.set_cons_succ, List.getElem_toArray, List.getElem_cons_zero, List.getElem_cons_succ])
  refine wpAnyH_take (i := 6) (v := .int .i64 (m : Int)) rfl (by kernel_rfl) (by kernel_rfl) (by kernel_rfl) (fun _ _ _ h => h) (Or.inl ⟨by rfl, ?_⟩) (by assumption) ?_
  · intro w' hSw
    (try dsimp only at hSw)
    obtain ⟨z1, z2, z3⟩ := hSw
    go_simp
    try with_reducible rfl
    all_goals omega
  (try simp only [Act.put, List.setIfInBounds_toArray, List.set_cons_zero, List.set_cons_succ, List.getElem_toArray, List.getElem_cons_zero, List.getElem_cons_succ])
  refine wpAnyH_take (i := 7) (v := .int .u64 (m : Int)) rfl (by kernel_rfl) (by kernel_rfl) (by kernel_rfl) (fun _ _ _ h => h) (Or.inl ⟨by rfl, ?_⟩) (by assumption) ?_
  · intro w' hSw
    (try dsimp only at hSw)
    obtain ⟨z1, z2, z3⟩ := hSw
    go_simp
    try with_reducible rfl
    all_goals omega
  (try simp only [Act.put, List.setIfInBounds_toArray, List.set_cons_zero, List.set_cons_succ, List.getElem_toArray, List.getElem_cons_zero, List.getElem_cons_succ])
  refine wpAnyH_ready (rs := [3]) (by kernel_rfl) (by simp) ?_
  refine AllReadyH.cons rfl (fun K hK => ?_) AllReadyH.nil
  (first | go_at_call 97 | (go_simp; go_at_call 97)); (refine (hpi.out _ ‹_›).mono ?_; rintro en w3 ⟨A1, c1, rfl, hb1, hSc⟩)
  refine hK.out _ _ ?_ (fun hHeld1 => ?_)
  · exact hSc
  clear hK K
  (try simp only [Act.put, List.setIfInBounds_toArray, List.set_cons_zero, List.set_cons_succ, List.getElem_toArray, List.getElem_cons_zero, List.getElem_cons_succ])
  refine wpAnyH_ready (rs := [8]) (by kernel_rfl) (by simp) ?_
  refine AllReadyH.cons rfl (fun K hK => ?_) AllReadyH.nil
  (first | go_at_call 70 | (go_simp; go_at_call 70)); (refine (hpu.out _ _ _ hb1 hSc).mono ?_; rintro en w4 ⟨A2, c2, rfl, hb2, hSc2⟩)
  refine hK.out _ _ ?_ (fun hHeld2 => ?_)
  · exact hSc2
  clear hK K
  (try simp only [Act.put, List.setIfInBounds_toArray, List.set_cons_zero, List.set_cons_succ, List.getElem_toArray, List.getElem_cons_zero, List.getElem_cons_succ])
  refine wpAnyH_take (i := 9) (v := .slice A2 L2.length c2) rfl (by kernel_rfl) (by kernel_rfl) (by kernel_rfl) (fun _ _ _ h => h) (Or.inl ⟨by rfl, ?_⟩) (by assumption) ?_
  · intro w' hSw
    (try dsimp only at hSw)
    obtain ⟨z1, z2, z3⟩ := hSw
    go_simp
    try with_reducible rfl
    all_goals omega
  (try simp only [Act.put, List.setIfInBounds_toArray, List.set_cons_zero, List.set_cons_succ, List.getElem_toArray, List.getElem_cons_zero, List.getElem_cons_succ])
  refine wpAnyH_done (by kernel_rfl) ?_ _
  clear hHeld hHeld1 hHeld2 hSc hb1 hpi hpu hS0 hS1
  have hEW4 : Ext W w4 := hSc2.2.2
  have y1 : w4.cell? ⟨b, 1, none⟩ = some (.slice B m d) := hSc2.2.1
  have hsz4 : w.heap.size ≤ w4.heap.size := (hEW.trans hEW4).size
  replace hb2 := hide hb2
  replace hEW4 := hide hEW4
  clear hSc2
  go_wp2_with fail
  go_loopw [0, 19] (fun s0 s19 wr => ∃ (i n4 c4 : Nat) (A4 : Option Addr) (L : List UInt8), s19 = .int .i64 (i : Int) ∧ s0 = .slice A4 n4 c4 ∧ i ≤ m ∧ n4 ≤ 100100000 ∧ Hid (L = L2 ++ putFs (fs.take i)) ∧ Hid (Own8 wr w.heap.size A4 n4 c4 L) ∧ Hid (Ext w4 wr)) (fun _ s19 _ => m - (intOf s19).toNat)
  case atStart => exact ⟨0, L2.length, c2, A2, L2, rfl, rfl, by omega, by omega, hide (by simp [putFs]), hb2, hide (Ext.refl w4)⟩
  case round =>
    obtain ⟨i, n4, c4, A4, L, rfl, rfl, hi, hn4, hL, hb4, hE⟩ := hrel
    by_cases him : i < m
    · obtain ⟨f, hf⟩ : ∃ f, fs[i]? = some f := ⟨_, List.getElem?_eq_getElem (by rw [← hm.out]; exact him)⟩
      obtain ⟨g, o, rfl, k0, k1⟩ := fcells_at (((hc.ext hEW).ext hEW4.out).ext hE.out) hf
      have hl1 := hfl.out f (List.mem_of_getElem? hf)
      have htk := putFs_take hf
      obtain ⟨nm, tx⟩ := f
      unfold strV at k0 k1
      simp only at k0 k1 hl1 htk
      obtain ⟨hlf1, hlf2⟩ := hl1
      obtain ⟨g2, hg2⟩ : ∃ g2, g2 = wr.heap.size := ⟨_, rfl⟩
      obtain ⟨Wf, hWf⟩ : ∃ Wf, Wf = wr.alloc (.cells #[.string ⟨nm.toArray⟩, .string ⟨tx.toArray⟩] 126) := ⟨_, rfl⟩
      have hEf : Ext wr Wf := by rw [hWf]; exact (Ext.refl wr).alloc _
      have hrf : Row Wf g2 126 #[.string ⟨nm.toArray⟩, .string ⟨tx.toArray⟩] := by rw [hWf, hg2]; exact Row.new wr _ _
      obtain ⟨L5, hL5⟩ : ∃ L5, L5 = L ++ txL nm := ⟨_, rfl⟩
      obtain ⟨L6, hL6⟩ : ∃ L6, L6 = L5 ++ txL tx := ⟨_, rfl⟩
      have hLl : L.length = n4 := hb4.out.1.symm
      have ht1 := txL_len (s := nm) (by omega)
      have ht2 := txL_len (s := tx) (by omega)
      have hl5 : L5.length ≤ 100200000 := by rw [hL5, List.length_append]; omega
      have hL62 : Hid (L6 = L2 ++ putFs (fs.take (i + 1))) := hide (by rw [hL6, hL5, hL.out, htk]; simp)
      have hl6 : L6.length ≤ 100100000 := by
        rw [hL62.out, List.length_append]
        have := htl.out (i + 1)
        omega
      have hEb : Ext w Wf := (hEW.trans hEW4.out).trans (hE.out.trans hEf)
      have hT1 : Wf.drew.cell? ⟨g2, 0, none⟩ = some (.string ⟨nm.toArray⟩) ∧ Wf.drew.cell? ⟨g2, 1, none⟩ = some (.string ⟨tx.toArray⟩) ∧ Ext Wf Wf.drew := ⟨hrf.cell 0 rfl, hrf.cell 1 rfl, (Ext.refl Wf).drew⟩
      have hb4f : Buf Wf w.heap.size 5 A4 n4 c4 (L.map B8) := hb4.out.2.ext hEf
      have hp1 : ∀ x, (x.cell? ⟨g2, 0, none⟩ = some (.string ⟨nm.toArray⟩) ∧ x.cell? ⟨g2, 1, none⟩ = some (.string ⟨tx.toArray⟩) ∧ Ext Wf x) → Calls Tryz.prog 98 #[.slice A4 n4 c4, .string ⟨nm.toArray⟩] x fun e y => ∃ A5 c5, e = .returned (.slice A5 L5.length c5) ∧ Own8 y w.heap.size A5 L5.length c5 L5 ∧ (y.cell? ⟨g2, 0, none⟩ = some (.string ⟨nm.toArray⟩) ∧ y.cell? ⟨g2, 1, none⟩ = some (.string ⟨tx.toArray⟩) ∧ Ext Wf y) := fun x ⟨h0, h1, hE⟩ =>
        (putText_any A4 n4 c4 L nm x hLl.symm (hb4f.cells.ext hE) hb4.out.nil_ (by omega) (by omega)).mono fun e y hy => by
          obtain ⟨A1, c1, he, hb1, hEy⟩ := NewB.own hy (hEb.trans hE).size
          rw [← hL5] at he hb1
          exact ⟨A1, c1, he, hb1, hEy.cell h0, hEy.cell h1, hE.trans hEy⟩
      have hp2 : ∀ x A5 c5, Own8 x w.heap.size A5 L5.length c5 L5 → (x.cell? ⟨g2, 0, none⟩ = some (.string ⟨nm.toArray⟩) ∧ x.cell? ⟨g2, 1, none⟩ = some (.string ⟨tx.toArray⟩) ∧ Ext Wf x) → Calls Tryz.prog 98 #[.slice A5 L5.length c5, .string ⟨tx.toArray⟩] x fun e y => ∃ A6 c6, e = .returned (.slice A6 L6.length c6) ∧ Own8 y w.heap.size A6 L6.length c6 L6 ∧ (y.cell? ⟨g2, 0, none⟩ = some (.string ⟨nm.toArray⟩) ∧ y.cell? ⟨g2, 1, none⟩ = some (.string ⟨tx.toArray⟩) ∧ Ext Wf y) := fun x A5 c5 hb1 ⟨h0, h1, hE⟩ =>
        (putText_any A5 L5.length c5 L5 tx x rfl hb1.2.cells hb1.nil_ (by omega) (by omega)).mono fun e y hy => by
          obtain ⟨A2, c2, he, hb2, hEy⟩ := NewB.own hy (hEb.trans hE).size
          rw [← hL6] at he hb2
          exact ⟨A2, c2, he, hb2, hEy.cell h0, hEy.cell h1, hE.trans hEy⟩
      have hi0 : (0 : Int) ≤ i := by omega
      have hi1 : (i : Int) < m := by omega
      have hEwf := hide (hE.out.trans hEf)
      replace hp1 := hide hp1
      replace hp2 := hide hp2
      replace hT1 := hide hT1
      replace hg2 := hide hg2
      replace hLl := hide hLl
      replace hWf := hide hWf
      clear hf hL5 hL6 htk ht1 ht2 hrf hEb hb4f
      go_wp2_with fail
      rw [← hWf.out, ← hg2.out]
      refine wp_region_held_drew (S := fun x => x.cell? ⟨g2, 0, none⟩ = some (.string ⟨nm.toArray⟩) ∧ x.cell? ⟨g2, 1, none⟩ = some (.string ⟨tx.toArray⟩) ∧ Ext Wf x) (by kernel_rfl) hT1.out (fun hHeld => ?_)
      refine wpAnyH_take (i := 0) (v := .slice A4 n4 c4) rfl (by kernel_rfl) (by kernel_rfl) (by kernel_rfl) (fun _ _ _ h => h) (Or.inl ⟨by rfl, ?_⟩) (by assumption) ?_
      · intro w' hSw
        (try dsimp only at hSw)
        obtain ⟨z1, z2, z3⟩ := hSw
        go_simp
        try with_reducible rfl
        all_goals omega
      (try simp only [Act.put, List.setIfInBounds_toArray, List.set_cons_zero, List.set_cons_succ, List.getElem_toArray, List.getElem_cons_zero, List.getElem_cons_succ])
      refine wpAnyH_take (i := 1) (v := .pointer (some ⟨g2, 0, none⟩)) rfl (by kernel_rfl) (by kernel_rfl) (by kernel_rfl) (fun _ _ _ h => h) (Or.inl ⟨by rfl, ?_⟩) (by assumption) ?_
      · intro w' hSw
        (try dsimp only at hSw)
        obtain ⟨z1, z2, z3⟩ := hSw
        go_simp
        try with_reducible rfl
        all_goals omega
      (try simp only [Act.put, List.setIfInBounds_toArray, List.set_cons_zero, List.set_cons_succ, List.getElem_toArray, List.getElem_cons_zero, List.getElem_cons_succ])
      refine wpAnyH_take (i := 2) (v := .string ⟨nm.toArray⟩) rfl (by kernel_rfl) (by kernel_rfl) (by kernel_rfl) (fun _ _ _ h => h) (Or.inl ⟨by rfl, ?_⟩) (by assumption) ?_
      · intro w' hSw
        (try dsimp only at hSw)
        obtain ⟨z1, z2, z3⟩ := hSw
        go_simp
        try with_reducible rfl
        all_goals omega
      (try simp only [Act.put, List.setIfInBounds_toArray, List.set_cons_zero, List.set_cons_succ, List.getElem_toArray, List.getElem_cons_zero, List.getElem_cons_succ])
      refine wpAnyH_take (i := 4) (v := .pointer (some ⟨g2, 1, none⟩)) rfl (by kernel_rfl) (by kernel_rfl) (by kernel_rfl) (fun _ _ _ h => h) (Or.inl ⟨by rfl, ?_⟩) (by assumption) ?_
      · intro w' hSw
        (try dsimp only at hSw)
        obtain ⟨z1, z2, z3⟩ := hSw
        go_simp
        try with_reducible rfl
        all_goals omega
      (try simp only [Act.put, List.setIfInBounds_toArray, List.set_cons_zero, List.set_cons_succ, List.getElem_toArray, List.getElem_cons_zero, List.getElem_cons_succ])
      refine wpAnyH_take (i := 5) (v := .string ⟨tx.toArray⟩) rfl (by kernel_rfl) (by kernel_rfl) (by kernel_rfl) (fun _ _ _ h => h) (Or.inl ⟨by rfl, ?_⟩) (by assumption) ?_
      · intro w' hSw
        (try dsimp only at hSw)
        obtain ⟨z1, z2, z3⟩ := hSw
        go_simp
        try with_reducible rfl
        all_goals omega
      (try simp only [Act.put, List.setIfInBounds_toArray, List.set_cons_zero, List.set_cons_succ, List.getElem_toArray, List.getElem_cons_zero, List.getElem_cons_succ])
      refine wpAnyH_ready (rs := [3]) (by kernel_rfl) (by simp) ?_
      refine AllReadyH.cons rfl (fun K hK => ?_) AllReadyH.nil
      (first | go_at_call 98 | (go_simp; go_at_call 98)); (refine (hp1.out _ ‹_›).mono ?_; rintro en w5 ⟨A5, c5, rfl, hb5, hSc⟩)
      refine hK.out _ _ ?_ (fun hHeld1 => ?_)
      · exact hSc
      clear hK K
      (try simp only [Act.put, List.setIfInBounds_toArray, List.set_cons_zero, List.set_cons_succ, List.getElem_toArray, List.getElem_cons_zero, List.getElem_cons_succ])
      refine wpAnyH_ready (rs := [6]) (by kernel_rfl) (by simp) ?_
      refine AllReadyH.cons rfl (fun K hK => ?_) AllReadyH.nil
      (first | go_at_call 98 | (go_simp; go_at_call 98)); (refine (hp2.out _ _ _ hb5 hSc).mono ?_; rintro en w6 ⟨A6, c6, rfl, hb6, hSc2⟩)
      refine hK.out _ _ ?_ (fun hHeld2 => ?_)
      · exact hSc2
      clear hK K
      (try simp only [Act.put, List.setIfInBounds_toArray, List.set_cons_zero, List.set_cons_succ, List.getElem_toArray, List.getElem_cons_zero, List.getElem_cons_succ])
      refine wpAnyH_take (i := 7) (v := .slice A6 L6.length c6) rfl (by kernel_rfl) (by kernel_rfl) (by kernel_rfl) (fun _ _ _ h => h) (Or.inl ⟨by rfl, ?_⟩) (by assumption) ?_
      · intro w' hSw
        (try dsimp only at hSw)
        obtain ⟨z1, z2, z3⟩ := hSw
        go_simp
        try with_reducible rfl
        all_goals omega
      (try simp only [Act.put, List.setIfInBounds_toArray, List.set_cons_zero, List.set_cons_succ, List.getElem_toArray, List.getElem_cons_zero, List.getElem_cons_succ])
      refine wpAnyH_done (by kernel_rfl) ?_ _
      have hE6 := hide (hEwf.out.trans hSc2.2.2)
      replace hb6 := hide hb6
      clear hHeld hHeld1 hHeld2 hSc hSc2 hb5
      go_wp2_with fail
      go_roundw
      case rel => exact ⟨i + 1, L6.length, c6, A6, L6, by go_num, rfl, by omega, by omega, hL62, hb6, hE6⟩
      case measure => simp [intOf]; omega
    · obtain rfl : i = m := by omega
      obtain ⟨hbl, hbb⟩ := hb4.out
      have hEfin := hide ((hEW.trans hEW4.out).trans hE.out)
      have hfin : NewB w (L2 ++ putFs (fs.take i)) (.returned (.slice A4 n4 c4)) wr := ⟨A4, c4, by rw [← hL.out, hbl], by rw [← hL.out, ← hbl]; exact hbb, hEfin.out⟩
      replace hfin := hide hfin
      clear hbb hbl
      go_wp2_with fail
      go_ret
      exact hfin.out
end Go.Proofs.YtohphanbnhiodaaGreat

/- loggia/event: Encode. -/
namespace Go.Proofs.YtohphanbnhiodaaGreat
open Go.RowKit

/-- What Encode answers. -/
def EncP (w : World) (bt : Bt) (e : Ending) (w' : World) : Prop := Ext w w' ∧ ((checkB bt = 0 ∧ ∃ A c, e = .returned (.tuple #[.slice A (encB bt).length c, .int .i64 0]) ∧ Buf w' w.heap.size 5 A (encB bt).length c ((encB bt).map B8)) ∨ (checkB bt ≠ 0 ∧ e = .returned (.tuple #[.slice none 0 0, .int .i64 (checkB bt : Int)])))
theorem putEs_take {es : List Ev} {i : Nat} {e : Ev} (h : es[i]? = some e) : putEs (es.take (i + 1)) = putEs (es.take i) ++ putE e := by
  unfold putEs
  rw [take_one2 h, List.flatMap_append]
  simp
theorem putEs_take_len {es : List Ev} (h : ∀ e ∈ es, I64ok' e.at_ ∧ checkE e.fs = 0) (i : Nat) : (putEs (es.take i)).length ≤ 100000 * es.length := by
  have h1 := putEs_len (es := es.take i) fun e he => h e (List.mem_of_mem_take he)
  have h2 : ∀ {gs : List Ev}, (∀ e ∈ gs, I64ok' e.at_ ∧ checkE e.fs = 0) → sizeEs gs ≤ 90000 * gs.length := by
    intro gs
    induction gs with
    | nil => intro _; simp [sizeEs]
    | cons e gs ih =>
      intro h
      have h1 := ih fun x hx => h x (by simp [hx])
      have h2 := sizeE_le (h e (by simp)).2
      have h5 : sizeEs (e :: gs) = sizeE e + sizeEs gs := by unfold sizeEs; rw [List.map_cons, List.sum_cons]
      rw [h5, List.length_cons]
      omega
  have h3 := h2 (gs := es.take i) fun e he => h e (List.mem_of_mem_take he)
  have h4 : (es.take i).length ≤ es.length := by rw [List.length_take]; omega
  omega
set_option maxRecDepth 100000 in
set_option maxHeartbeats 4000000 in
theorem encode_any (bc : BtC) (w : World) (h : bc.Ok w) (ha : ∀ x ∈ bc.l, I64ok' x.e.at_) : Calls Tryz.prog 37 #[bc.val] w fun en w' => EncP w bc.bt en w' := by
  have hck0 := fun W (hE : Ext w W) => ckbatch_any bc W (h.ext hE)
  unfold EncP
  obtain ⟨seq, l, A, c⟩ := bc
  obtain ⟨hev, hmany, hsq⟩ := h
  unfold BtC.val BtC.bt at *
  simp only at hev hmany hsq ha hck0 ⊢
  obtain ⟨Z, hZ⟩ : ∃ Z, Z = checkB ⟨seq, l.map (·.e)⟩ := ⟨_, rfl⟩
  have hB := @checkB_ok ⟨seq, l.map (·.e)⟩
  simp only [List.length_map] at hB
  rw [← hZ] at hck0 hB ⊢
  obtain ⟨L, hL⟩ : ∃ L, L = l.map (·.e) := ⟨_, rfl⟩
  have haL : ∀ e ∈ L, I64ok' e.at_ := fun e he => by rw [hL] at he; obtain ⟨x, hx, rfl⟩ := List.mem_map.1 he; exact ha x hx
  have hLn : L.length = l.length := by rw [hL, List.length_map]
  rw [← hL] at hB ⊢
  obtain ⟨n, hn⟩ : ∃ n, n = l.length := ⟨_, rfl⟩
  rw [← hn] at hmany hck0 hB hLn ⊢
  obtain ⟨W, hW⟩ : ∃ W, W = w.alloc (.cells #[.int .i64 seq, .slice A n c] 80) := ⟨_, rfl⟩
  have hEW : Ext w W := by rw [hW]; exact (Ext.refl w).alloc _
  obtain ⟨b, hb⟩ : ∃ b, b = w.heap.size := ⟨_, rfl⟩
  have hr : Row W b 80 #[.int .i64 seq, .slice A n c] := by rw [hW, hb]; exact Row.new w _ _
  have y0 : W.cell? ⟨b, 0, none⟩ = some (.int .i64 seq) := hr.cell 0 rfl
  have y1 : W.cell? ⟨b, 1, none⟩ = some (.slice A n c) := hr.cell 1 rfl
  have hck := hide (hck0 W hEW)
  replace hn := hide hn
  replace hL := hide hL
  replace hW := hide hW
  replace hb := hide hb
  replace hZ := hide hZ
  clear hck0
  by_cases hz0 : Z = 0
  case neg =>
    have hz0' : ¬ (Z : Int) = 0 := by omega
    clear hB
    go_enter Tryz.func37, Tryz.ntmps37
    go_wp2_with fail
    rw [← hW.out]
    refine hck.out.mono ?_
    rintro en w1 ⟨rfl, hE1⟩
    go_wp2_with fail
    go_ret2
    exact ⟨hEW.trans hE1, .inr ⟨hz0, rfl⟩⟩
  case pos =>
    subst hz0
    obtain ⟨hn1, hn64, hckL, _, hs1, hs2⟩ := hB rfl
    have hall : ∀ e ∈ L, I64ok' e.at_ ∧ checkE e.fs = 0 := fun e he => ⟨haL e he, hckL e he⟩
    obtain ⟨q, hq⟩ : ∃ q, q = seq.toNat := ⟨_, rfl⟩
    have hqs : (q : Int) = seq := by omega
    have hwq : IntKind.u64.wrap seq = (q : Int) := by rw [← hqs]; exact wrap_u64 (by omega)
    have hwn := wrap_u64 (m := n) (by omega)
    have hql := vb_le10 (n := q) (by omega)
    have hnl := vb_le10 (n := n) (by omega)
    obtain ⟨L1, hL1⟩ : ∃ L1, L1 = vb q := ⟨_, rfl⟩
    obtain ⟨L2, hL2⟩ : ∃ L2, L2 = L1 ++ vb n := ⟨_, rfl⟩
    have hl1 : L1.length ≤ 10 := by rw [hL1]; exact hql
    have hl2 : L2.length ≤ 20 := by rw [hL2, List.length_append]; omega
    have henc : Hid (encB ⟨seq, L⟩ = L2 ++ putEs L) := hide (by unfold encB; simp only; rw [hLn, ← hq, hL2, hL1])
    have htl := putEs_take_len hall
    rw [hLn] at htl
    have hp1 : ∀ x, (x.cell? ⟨b, 0, none⟩ = some (.int .i64 seq) ∧ x.cell? ⟨b, 1, none⟩ = some (.slice A n c) ∧ Ext W x) → Calls Tryz.prog 70 #[.slice none 0 0, .int .u64 (q : Int)] x fun e y => ∃ A1 c1, e = .returned (.slice A1 L1.length c1) ∧ Own8 y w.heap.size A1 L1.length c1 L1 ∧ (y.cell? ⟨b, 0, none⟩ = some (.int .i64 seq) ∧ y.cell? ⟨b, 1, none⟩ = some (.slice A n c) ∧ Ext W y) := fun x ⟨h0, h1, hE⟩ =>
      (put_any none 0 0 q [] x rfl (.inl rfl) (fun _ => rfl) (by omega) (by omega)).mono fun e y hy => by
        obtain ⟨A1, c1, he, hb1, hEy⟩ := NewB.own hy (hEW.trans hE).size
        rw [List.nil_append, ← hL1] at he hb1
        exact ⟨A1, c1, he, hb1, hEy.cell h0, hEy.cell h1, hE.trans hEy⟩
    have hp2 : ∀ x A1 c1, Own8 x w.heap.size A1 L1.length c1 L1 → (x.cell? ⟨b, 0, none⟩ = some (.int .i64 seq) ∧ x.cell? ⟨b, 1, none⟩ = some (.slice A n c) ∧ Ext W x) → Calls Tryz.prog 70 #[.slice A1 L1.length c1, .int .u64 (n : Int)] x fun e y => ∃ A2 c2, e = .returned (.slice A2 L2.length c2) ∧ Own8 y w.heap.size A2 L2.length c2 L2 ∧ (y.cell? ⟨b, 0, none⟩ = some (.int .i64 seq) ∧ y.cell? ⟨b, 1, none⟩ = some (.slice A n c) ∧ Ext W y) := fun x A1 c1 hb1 ⟨h0, h1, hE⟩ =>
      (put_any A1 L1.length c1 n L1 x rfl hb1.2.cells hb1.nil_ (by omega) (by omega)).mono fun e y hy => by
        obtain ⟨A2, c2, he, hb2, hEy⟩ := NewB.own hy (hEW.trans hE).size
        rw [← hL2] at he hb2
        exact ⟨A2, c2, he, hb2, hEy.cell h0, hEy.cell h1, hE.trans hEy⟩
    have hS : ∀ x, Ext W x → x.drew.cell? ⟨b, 0, none⟩ = some (.int .i64 seq) ∧ x.drew.cell? ⟨b, 1, none⟩ = some (.slice A n c) ∧ Ext W x.drew := fun x hE => ⟨hE.drew.cell y0, hE.drew.cell y1, hE.drew⟩
    replace hp1 := hide hp1
    replace hp2 := hide hp2
    replace hS := hide hS
    replace hall := hide hall
    replace htl := hide htl
    replace hLn := hide hLn
    replace hqs := hide hqs
    clear hL1 hL2 hql hnl hckL haL hB hq
    go_enter Tryz.func37, Tryz.ntmps37
    go_wp2_with fail
    rw [← hW.out, ← hb.out]
    refine hck.out.mono ?_
    rintro en w1 ⟨rfl, hE1⟩
    have hS1 := hide (hS.out w1 hE1)
    go_wp2_with fail
    refine wp_region_held_drew (S := fun x => x.cell? ⟨b, 0, none⟩ = some (.int .i64 seq) ∧ x.cell? ⟨b, 1, none⟩ = some (.slice A n c) ∧ Ext W x) (by kernel_rfl) hS1.out (fun hHeld => ?_)
    refine wpAnyH_take (i := 0) (v := .pointer (some ⟨b, 0, none⟩)) rfl (by kernel_rfl) (by kernel_rfl) (by kernel_rfl) (fun _ _ _ h => h) (Or.inl ⟨by rfl, ?_⟩) (by assumption) ?_
    · intro w' hSw
      (try dsimp only at hSw)
      obtain ⟨z1, z2, z3⟩ := hSw
      go_simp
      try with_reducible rfl
      all_goals omega
    (try simp only [Act.put, List.setIfInBounds_toArray, List.set_cons_zero, List.set_cons_succ, List.getElem_toArray, List.getElem_cons_zero, List.getElem_cons_succ])
    refine wpAnyH_take (i := 1) (v := .int .i64 seq) rfl (by kernel_rfl) (by kernel_rfl) (by kernel_rfl) (fun _ _ _ h => h) (Or.inl ⟨by rfl, ?_⟩) (by assumption) ?_
    · intro w' hSw
      (try dsimp only at hSw)
      obtain ⟨z1, z2, z3⟩ := hSw
      go_simp
      try with_reducible rfl
      all_goals omega
    (try simp only [Act.put, List.setIfInBounds_toArray, List.set_cons_zero, List.set_cons_succ, List.getElem_toArray, List.getElem_cons_zero, List.getElem_cons_succ])
    refine wpAnyH_take (i := 2) (v := .int .u64 (q : Int)) rfl (by kernel_rfl) (by kernel_rfl) (by kernel_rfl) (fun _ _ _ h => h) (Or.inl ⟨by rfl, ?_⟩) (by assumption) ?_
    · intro w' hSw
      (try dsimp only at hSw)
      obtain ⟨z1, z2, z3⟩ := hSw
      go_simp
      try with_reducible rfl
      all_goals omega
    (try simp only [Act.put, List.setIfInBounds_toArray, List.set_cons_zero, List.set_cons_succ, List.getElem_toArray, List.getElem_cons_zero, List.getElem_cons_succ])
    refine wpAnyH_take (i := 4) (v := .pointer (some ⟨b, 1, none⟩)) rfl (by kernel_rfl) (by kernel_rfl) (by kernel_rfl) (fun _ _ _ h => h) (Or.inl ⟨by rfl, ?_⟩) (by assumption) ?_
    · intro w' hSw
      (try dsimp only at hSw)
      obtain ⟨z1, z2, z3⟩ := hSw
      go_simp
      try with_reducible rfl
      all_goals omega
    (try simp only [Act.put, List.setIfInBounds_toArray, List.set_cons_zero, List.set_cons_succ, List.getElem_toArray, List.getElem_cons_zero, List.getElem_cons_succ])
    refine wpAnyH_take (i := 5) (v := .slice A n c) rfl (by kernel_rfl) (by kernel_rfl) (by kernel_rfl) (fun _ _ _ h => h) (Or.inl ⟨by rfl, ?_⟩) (by assumption) ?_
    · intro w' hSw
      (try dsimp only at hSw)
      obtain ⟨z1, z2, z3⟩ := hSw
      go_simp
      try with_reducible rfl
      all_goals omega
    (try simp only [Act.put, List.setIfInBounds_toArray, List.set_cons_zero, List.set_cons_succ, List.getElem_toArray, List.getElem_cons_zero, List.getElem_cons_succ])
    refine wpAnyH_take (i := 6) (v := .int .i64 (n : Int)) rfl (by kernel_rfl) (by kernel_rfl) (by kernel_rfl) (fun _ _ _ h => h) (Or.inl ⟨by rfl, ?_⟩) (by assumption) ?_
    · intro w' hSw
      (try dsimp only at hSw)
      obtain ⟨z1, z2, z3⟩ := hSw
      go_simp
      try with_reducible rfl
      all_goals omega
    (try simp only [Act.put, List.setIfInBounds_toArray, List.set_cons_zero, List.set_cons_succ, List.getElem_toArray, List.getElem_cons_zero, List.getElem_cons_succ])
    refine wpAnyH_take (i := 7) (v := .int .u64 (n : Int)) rfl (by kernel_rfl) (by kernel_rfl) (by kernel_rfl) (fun _ _ _ h => h) (Or.inl ⟨by rfl, ?_⟩) (by assumption) ?_
    · intro w' hSw
      (try dsimp only at hSw)
      obtain ⟨z1, z2, z3⟩ := hSw
      go_simp
      try with_reducible rfl
      all_goals omega
    (try simp only [Act.put, List.setIfInBounds_toArray, List.set_cons_zero, List.set_cons_succ, List.getElem_toArray, List.getElem_cons_zero, List.getElem_cons_succ])
    refine wpAnyH_ready (rs := [3]) (by kernel_rfl) (by simp) ?_
    refine AllReadyH.cons rfl (fun K hK => ?_) AllReadyH.nil
    (first | go_at_call 70 | (go_simp; go_at_call 70)); (refine (hp1.out _ ‹_›).mono ?_; rintro en w3 ⟨A1, c1, rfl, hb1, hSc⟩)
    refine hK.out _ _ ?_ (fun hHeld1 => ?_)
    · exact hSc
    clear hK K
    (try simp only [Act.put, List.setIfInBounds_toArray, List.set_cons_zero, List.set_cons_succ, List.getElem_toArray, List.getElem_cons_zero, List.getElem_cons_succ])
    refine wpAnyH_ready (rs := [8]) (by kernel_rfl) (by simp) ?_
    refine AllReadyH.cons rfl (fun K hK => ?_) AllReadyH.nil
    (first | go_at_call 70 | (go_simp; go_at_call 70)); (refine (hp2.out _ _ _ hb1 hSc).mono ?_; rintro en w4 ⟨A2, c2, rfl, hb2, hSc2⟩)
    refine hK.out _ _ ?_ (fun hHeld2 => ?_)
    · exact hSc2
    clear hK K
    (try simp only [Act.put, List.setIfInBounds_toArray, List.set_cons_zero, List.set_cons_succ, List.getElem_toArray, List.getElem_cons_zero, List.getElem_cons_succ])
    refine wpAnyH_take (i := 9) (v := .slice A2 L2.length c2) rfl (by kernel_rfl) (by kernel_rfl) (by kernel_rfl) (fun _ _ _ h => h) (Or.inl ⟨by rfl, ?_⟩) (by assumption) ?_
    · intro w' hSw
      (try dsimp only at hSw)
      obtain ⟨z1, z2, z3⟩ := hSw
      go_simp
      try with_reducible rfl
      all_goals omega
    (try simp only [Act.put, List.setIfInBounds_toArray, List.set_cons_zero, List.set_cons_succ, List.getElem_toArray, List.getElem_cons_zero, List.getElem_cons_succ])
    refine wpAnyH_done (by kernel_rfl) ?_ _
    have hE4 := hide hSc2.2.2
    have y1' : w4.cell? ⟨b, 1, none⟩ = some (.slice A n c) := hSc2.2.1
    have hsz4 : w.heap.size ≤ w4.heap.size := (hEW.trans hE4.out).size
    replace hb2 := hide hb2
    clear hHeld hHeld1 hHeld2 hSc hSc2 hb1 hp1 hp2 hS hS1
    go_wp2_with fail
    go_loopw [5, 25] (fun s5 s25 wr => ∃ (i n4 c4 : Nat) (A4 : Option Addr) (K : List UInt8), s25 = .int .i64 (i : Int) ∧ s5 = .slice A4 n4 c4 ∧ i ≤ n ∧ n4 ≤ 10000000 ∧ Hid (K = L2 ++ putEs (L.take i)) ∧ Hid (Own8 wr w.heap.size A4 n4 c4 K) ∧ Hid (Ext w4 wr)) (fun _ s25 _ => n - (intOf s25).toNat)
    case atStart => exact ⟨0, L2.length, c2, A2, L2, rfl, rfl, by omega, by omega, hide (by simp [putEs]), hb2, hide (Ext.refl w4)⟩
    case round =>
      obtain ⟨i, n4, c4, A4, K, rfl, rfl, hi, hn4, hK, hb4, hE⟩ := hrel
      by_cases hin : i < n
      · obtain ⟨x, hx⟩ : ∃ x, l[i]? = some x := ⟨_, List.getElem?_eq_getElem (by rw [← hn.out]; exact hin)⟩
        have hxe : L[i]? = some x.e := by rw [hL.out, List.getElem?_map, hx]; rfl
        have hE0 := (hEW.trans hE4.out).trans hE.out
        have hxo := (hev.each x (List.mem_of_getElem? hx)).ext hE0
        have hxa := hall.out x.e (List.mem_of_getElem? hxe)
        obtain ⟨g, o, hA, k0, k1⟩ := ecells_at (hev.cells.ext hE0) hx
        have htk := putEs_take hxe
        obtain ⟨y, B, d⟩ := x
        simp only at hxe hxo hxa k0 k1 htk
        subst hA
        obtain ⟨Wf, hWf⟩ : ∃ Wf, Wf = wr.alloc (.cells #[.int .i64 y.at_, .slice B y.fs.length d] 89) := ⟨_, rfl⟩
        have hEf : Ext wr Wf := by rw [hWf]; exact (Ext.refl wr).alloc _
        have hKl : n4 = K.length := hb4.out.1
        have hpt := evput_any A4 n4 c4 K y B d Wf hKl (hb4.out.2.ext hEf).cells hb4.out.nil_ (by omega) (hxo.ext hEf) hxa.2 hxa.1
        obtain ⟨K6, hK6⟩ : ∃ K6, K6 = K ++ putE y := ⟨_, rfl⟩
        have hK62 : Hid (K6 = L2 ++ putEs (L.take (i + 1))) := hide (by rw [hK6, hK.out, htk, List.append_assoc])
        have hk6 : K6.length ≤ 10000000 := by
          rw [hK62.out, List.length_append]
          have := htl.out (i + 1)
          omega
        rw [← hK6] at hpt
        have hEf0 := hide (hE0.trans hEf)
        have hEfw := hide (hE.out.trans hEf)
        unfold Ev.val at hpt
        have hi0 : (0 : Int) ≤ i := by omega
        have hi1 : (i : Int) < n := by omega
        replace hpt := hide hpt
        replace hWf := hide hWf
        replace hKl := hide hKl
        clear hx hxe hK6 htk hE0
        go_wp2_with fail
        rw [← hWf.out]
        refine hpt.out.mono ?_
        rintro en w6 hy
        obtain ⟨A6, c6, rfl, hb6, hE6⟩ := NewB.own hy hEf0.out.size
        have hE46 := hide (hEfw.out.trans hE6)
        replace hb6 := hide hb6
        clear hy hE6
        go_wp2_with fail
        go_roundw
        case rel => exact ⟨i + 1, K6.length, c6, A6, K6, by go_num, rfl, by omega, by omega, hK62, hb6, hE46⟩
        case measure => simp [intOf]; omega
      · have hall2 : L.take i = L := List.take_of_length_le (by rw [hLn.out]; omega)
        have hKe : K = encB ⟨seq, L⟩ := by rw [hK.out, hall2, henc.out]
        obtain ⟨hbl, hbb⟩ := hb4.out
        subst hbl
        rw [hKe] at hbb
        have hEfin := hide ((hEW.trans hE4.out).trans hE.out)
        have hfin : ∃ A c, Ending.returned (.tuple #[.slice A4 K.length c4, .int .i64 0]) = .returned (.tuple #[.slice A (encB ⟨seq, L⟩).length c, .int .i64 0]) ∧ Buf wr w.heap.size 5 A (encB ⟨seq, L⟩).length c ((encB ⟨seq, L⟩).map B8) := ⟨A4, c4, by rw [hKe], hbb⟩
        replace hfin := hide hfin
        clear hbb hKe
        go_wp2_with fail
        go_ret2
        exact ⟨hEfin.out, .inl ⟨trivial, hfin.out⟩⟩
end Go.Proofs.YtohphanbnhiodaaGreat

