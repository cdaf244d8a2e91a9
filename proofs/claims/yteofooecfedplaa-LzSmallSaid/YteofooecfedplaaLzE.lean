/- loggia/lz: the longest match. -/
import Derived.Test.YteofooecfedplaaLzD
namespace Go.Proofs.Yteofooecfedplaa
open Go.RowKit Go.Maps

set_option maxRecDepth 100000 in
set_option maxHeartbeats 400000 in
theorem note_no (b i : Nat) (A : Option Addr) (c n : Nat) (w : World) (hb : w.cell? ⟨b, 0, none⟩ = some (.slice A n c)) (hn : n ≤ 16777216) (hi : i ≤ n) (hi4 : n < i + 4) :
    Calls Try.prog 19 #[.pointer (some ⟨b, 0, none⟩), .int .i64 i] w fun e w' => e = .returned (.tuple #[]) ∧ Ext w w' := by
  have hky := key_no b i A c n w hb hn hi hi4
  unfold key0 at hky
  have HK := hide hky
  clear hky
  go_enter Try.func19, Try.ntmps19
  go_wp2_with fail
  refine HK.out.mono ?_
  rintro e w1 ⟨rfl, hE⟩
  go_wp2_with fail
  go_end0
  exact ⟨rfl, hE.alloc _⟩

/-- The longest match, the nearest first: the places that are left, how long the best is, how far back. -/
def mtl (l : List UInt8) (i most : Nat) : List Nat → Nat → Nat → Nat × Nat
  | [], n, d => (n, d)
  | p :: r, n, d => if i - p ≤ 65535 ∧ n < most then if n < alk l p i 131 0 then mtl l i most r (alk l p i 131 0) (i - p) else mtl l i most r n d else (n, d)
def matchM (l : List UInt8) (i : Nat) : Nat × Nat := if i + 4 ≤ l.length then mtl l i (min 131 (l.length - i)) (pos l (kb l i) i).reverse 0 0 else (0, 0)
theorem mtl_step {l : List UInt8} {i most k n d : Nat} {ps : List Nat} (hk : k < ps.length) :
    mtl l i most (ps.take (k + 1)).reverse n d = (if i - ps[k] ≤ 65535 ∧ n < most then if n < alk l ps[k] i 131 0 then mtl l i most (ps.take k).reverse (alk l ps[k] i 131 0) (i - ps[k]) else mtl l i most (ps.take k).reverse n d else (n, d)) := by
  rw [List.take_succ_eq_append_getElem hk, List.reverse_append]
  rfl
theorem pos_lt {l x : List UInt8} {i j : Nat} (h : j ∈ pos l x i) : j < i := by
  unfold pos at h
  have := (List.mem_filter.1 h).1
  simpa using this
theorem alk_le (l : List UInt8) (i k : Nat) : ∀ (f n : Nat), n ≤ alk l i k f n ∧ alk l i k f n ≤ n + f
  | 0, n => ⟨Nat.le_refl _, Nat.le_refl _⟩
  | f + 1, n => by
    have := alk_le l i k f (n + 1)
    show _ ≤ (if h : k + n < l.length ∧ i + n < l.length then if l[i + n] = l[k + n] then alk l i k f (n + 1) else n else n) ∧ (if h : k + n < l.length ∧ i + n < l.length then if l[i + n] = l[k + n] then alk l i k f (n + 1) else n else n) ≤ _
    split
    · split <;> omega
    · omega

set_option maxRecDepth 100000 in
set_option maxHeartbeats 400000 in
theorem match_no (b i : Nat) (A : Option Addr) (c : Nat) (l : List UInt8) (w : World) (hb : w.cell? ⟨b, 0, none⟩ = some (.slice A l.length c)) (hn : l.length ≤ 16777216) (hi : i ≤ l.length) (hi4 : l.length < i + 4) :
    Calls Try.prog 17 #[.pointer (some ⟨b, 0, none⟩), .int .i64 i] w fun e w' => e = .returned (.tuple #[.int .i64 (matchM l i).1, .int .i64 (matchM l i).2]) ∧ Ext w w' := by
  have hky := key_no b i A c l.length w hb hn hi hi4
  unfold key0 at hky
  have HK := hide hky
  clear hky
  have hm : matchM l i = (0, 0) := by unfold matchM; rw [if_neg (by omega)]
  rw [hm]
  go_enter Try.func17, Try.ntmps17
  go_wp2_with fail
  refine HK.out.mono ?_
  rintro e w1 ⟨rfl, hE⟩
  go_wp2_with fail
  go_ret2
  exact ⟨rfl, hE.alloc _⟩

set_option maxRecDepth 100000 in
set_option maxHeartbeats 1000000 in
theorem match_yes (b m base i : Nat) (A : Option Addr) (c : Nat) (l : List UInt8) (outv : Value) (fr : Nat) (L : List (Value × Value)) (w : World)
  (hR : Row w b 44 #[.slice A l.length c, outv, .int .i64 fr, .map (some m)]) (hl : Bs w A l) (hG : Grp w m base l i L)
  (hn : l.length ≤ 16777216) (hc : l.length ≤ c) (hi : i + 4 ≤ l.length) :
    Calls Try.prog 17 #[.pointer (some ⟨b, 0, none⟩), .int .i64 i] w fun e w' => e = .returned (.tuple #[.int .i64 (matchM l i).1, .int .i64 (matchM l i).2]) ∧ Ext w w' := by
  obtain ⟨a0, a1, a2, a3, hkb, e0, e1, e2, e3⟩ := kb_four hi
  have hky := fun w1 => key_yes b i A c l w1
  unfold key4 B8 at hky
  rw [e0, e1, e2, e3] at hky
  have HK := hide hky
  clear hky e0 e1 e2 e3
  replace hkb := hide hkb
  go_enter Try.func17, Try.ntmps17
  go_wp2_with fail
  refine (HK.out _ (hR.cell 0 rfl) hl hn hc hi).mono ?_
  rintro e w1 ⟨rfl, hE⟩
  have R1 := hR.ext hE
  have hbl := R1.lt
  have ca0 : w1.cell? ⟨b, 0, none⟩ = some (.slice A l.length c) := R1.cell 0 rfl
  have ca3 : w1.cell? ⟨b, 3, none⟩ = some (.map (some m)) := R1.cell 3 rfl
  obtain ⟨W1, hW1⟩ : ∃ W, W = w1.alloc (.cells #[.int .u8 (a0.toNat : Int), .int .u8 (a1.toNat : Int), .int .u8 (a2.toNat : Int), .int .u8 (a3.toNat : Int)] 54) := ⟨_, rfl⟩
  have hE1 : Ext w W1.drew := by rw [hW1]; exact (hE.alloc _).drew
  have hG1 : Grp W1.drew m base l i L := hG.keep (Chg.of_ext hE1 (fun _ => False)) (fun h => h) (fun _ _ h => h.elim)
  have hkl : (kb l i).length = 4 := by rw [hkb.out]; rfl
  obtain ⟨lit, hlit⟩ := keyV_lit hkl
  have hkv : keyV (kb l i) = .agg #[.int .u8 (a0.toNat : Int), .int .u8 (a1.toNat : Int), .int .u8 (a2.toNat : Int), .int .u8 (a3.toNat : Int)] := by rw [hkb.out]; rfl
  obtain ⟨ps, hps⟩ : ∃ ps, ps = pos l (kb l i) i := ⟨_, rfl⟩
  have hlk : ∃ v, W1.drew.ownsRow base 3 1 v ps.length (ps.map iv) ∧ (Instr.lookup 42 (.map (some m)) (keyV (kb l i)) false).run Try.prog W1.drew = .ok v W1.drew := by
    rcases hG1.map.look K4 Try.underlying42 hlit (zeroI _) false with ⟨v, hv, hrun⟩ | ⟨hno, hrun⟩
    · obtain ⟨x, h1, h2, h3⟩ := hG1.own _ hv
      obtain rfl := keyV_inj h2
      exact ⟨v, by rw [hps]; exact h3, hrun⟩
    · refine ⟨_, ?_, hrun⟩
      rw [hps, hG1.all _ hkl hno]
      exact World.ownsRow_nil _ _ _ _
  obtain ⟨v, hown, hrun⟩ := hlk
  obtain ⟨A0, c0, rfl⟩ := owns_shape hown
  have hcs := Cells.of_own hown
  have hmin := run_min2 (P := Try.prog) #[3, 3] 3 (x := 131) (y := (l.length : Int) - i) (m := (min 131 (l.length - i) : Nat)) (by omega)
  obtain ⟨most, hmost⟩ : ∃ most, most = min 131 (l.length - i) := ⟨_, rfl⟩
  rw [← hmost] at hmin
  have hfin : matchM l i = mtl l i most ps.reverse 0 0 := by unfold matchM; rw [if_pos hi, hmost, hps]
  have hplt : ∀ j ∈ ps, j < i := fun j hj => pos_lt (by rw [← hps]; exact hj)
  have hplen : ps.length ≤ i := by
    rw [hps]; unfold pos
    exact Nat.le_trans (List.length_filter_le _ _) (by simp)
  have hmo : most ≤ 131 := by omega
  rw [hkv] at hrun
  replace hfin := hide hfin
  have hci : ∀ k, (hk : k < ps.length) → ∃ g, A0 = some ⟨g, 0, none⟩ ∧ W1.drew.cell? ⟨g, k, none⟩ = some (.int .i64 (ps[k] : Nat)) ∧ g < W1.heap.size := by
    intro k hk
    rcases hown.2 with ⟨h1, h2⟩ | ⟨g, cap, cur, hv, hb, hg, hn', hc', hs, ht⟩
    · omega
    · injection hv with hA _ _
      subst hA
      refine ⟨g, rfl, ?_, (Array.getElem?_eq_some_iff.1 hg).1⟩
      obtain ⟨g', o', hA', hc''⟩ := hcs.at_ (by simp; omega)
      cases hA'
      have := hc'' k (iv ps[k]) (by simp [hk])
      simpa [iv] using this
  clear hcs hown hkv hlit hkl hps hmost hG1
  replace hci := hide hci
  replace hplt := hide hplt
  have hE1' := hide hE1
  clear hE1
  subst hW1
  go_wp2_with fail
  refine wp_region_text follows (by kernel_rfl) (by kernel_rfl) (fun K hK => ?_)
  go_wp2_with fail
  refine ⟨by kernel_rfl, ?_⟩
  go_wp2_with fail
  obtain ⟨W2, hW2⟩ : ∃ W, W = (w1.alloc (.cells #[.int .u8 (a0.toNat : Int), .int .u8 (a1.toNat : Int), .int .u8 (a2.toNat : Int), .int .u8 (a3.toNat : Int)] 54)).drew := ⟨_, rfl⟩
  rw [← hW2] at hci hE1'
  rw [← hW2]
  clear hmin hrun hW2 ca0 ca3 hbl R1
  have hil : i < l.length := by omega
  go_loopw [4, 5, 10] (fun s4 s5 s10 wr => ∃ k n d : Nat, k ≤ ps.length ∧ s10 = .int .i64 ((k : Int) - 1) ∧ s4 = .int .i64 n ∧ s5 = .int .i64 d ∧ n ≤ 131 ∧ Hid (mtl l i most (ps.take k).reverse n d = mtl l i most ps.reverse 0 0) ∧ Ext W2 wr) (fun _ _ s10 _ => (intOf s10 + 1).toNat)
  case atStart => exact ⟨ps.length, 0, 0, Nat.le_refl _, rfl, rfl, rfl, by omega, hide (by rw [List.take_length]), Ext.refl _⟩
  case round =>
    obtain ⟨k, n, d, hk, h10, rfl, rfl, hn131, hmt, hEr⟩ := hrel
    rcases Nat.eq_zero_or_pos k with rfl | hkp
    · subst h10
      go_wp2_with fail
      go_ret2
      refine ⟨?_, hE1'.out.trans hEr⟩
      rw [hfin.out, ← hmt.out]
      rfl
    · obtain ⟨k, rfl⟩ : ∃ k', k = k' + 1 := ⟨k - 1, by omega⟩
      rw [show (((k + 1 : Nat) : Int) - 1) = (k : Int) by omega] at h10
      subst h10
      obtain ⟨g, rfl, hcg, hgl⟩ := hci.out k (by omega)
      have hcg' := hEr.cell hcg
      have hst := mtl_step (l := l) (i := i) (most := most) (n := n) (d := d) (ps := ps) (k := k) (by omega)
      obtain ⟨p, hp⟩ : ∃ p, p = ps[k] := ⟨_, rfl⟩
      have hpi : p < i := by rw [hp]; exact hplt.out _ (List.getElem_mem _)
      rw [← hp] at hcg hcg' hst
      have hx := (alk_le l p i 131 0).2
      obtain ⟨x, hxx⟩ : ∃ x, x = alk l p i 131 0 := ⟨_, rfl⟩
      rw [← hxx] at hst hx
      replace hst := hide hst
      replace hp := hide hp
      replace hxx := hide hxx
      clear hcg
      by_cases hf : i - p ≤ 65535
      · have hf' : (i : Int) - p ≤ 65535 := by omega
        by_cases hm : n < most
        · go_wp2_with fail
          refine (alike_any b p i A c l wr ((hR.ext (hE1'.out.trans hEr)).cell 0 rfl) (hl.ext (hE1'.out.trans hEr)) hn hpi hil).mono ?_
          rw [← hxx.out]
          rintro e w3 ⟨rfl, hE3⟩
          have hcg3 := hE3.cell hcg'
          by_cases hxn : n < x
          · go_wp2_with fail
            refine wp_region_text follows (by kernel_rfl) (by kernel_rfl) (fun K hK => ?_)
            go_wp2_with fail
            refine ⟨by kernel_rfl, ?_⟩
            go_wp2_with fail
            go_roundw
            case rel => exact ⟨k, x, i - p, by omega, rfl, rfl, by go_num, by omega, hide (by rw [← hmt.out, hst.out, if_pos ⟨hf, hm⟩, if_pos hxn]), (hEr.trans hE3).drew⟩
            case measure => simp [intOf]
          · go_wp2_with fail
            go_roundw
            case rel => exact ⟨k, n, d, by omega, rfl, rfl, rfl, by omega, hide (by rw [← hmt.out, hst.out, if_pos ⟨hf, hm⟩, if_neg hxn]), hEr.trans hE3⟩
            case measure => simp [intOf]
        · go_wp2_with fail
          go_ret2
          refine ⟨?_, hE1'.out.trans hEr⟩
          rw [hfin.out, ← hmt.out, hst.out, if_neg (by omega)]
          rfl
      · have hf' : ¬ (i : Int) - p ≤ 65535 := by omega
        go_wp2_with fail
        go_ret2
        refine ⟨?_, hE1'.out.trans hEr⟩
        rw [hfin.out, ← hmt.out, hst.out, if_neg (by omega)]
        rfl
end Go.Proofs.Yteofooecfedplaa
