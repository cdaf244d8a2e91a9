/- loggiaref31: Num, Format. -/
import Derived.Test.YtpajpdkliohepaaDoorFmB
import Derived.Deep.RegionHeld3
namespace Go.Proofs.YtpajpdkliohepaaDoor
open Go.RowKit

set_option maxRecDepth 100000 in
set_option maxHeartbeats 1000000 in
theorem rnum_any (n : Int) (w : World) (h0 : -9223372036854775808 ≤ n) (h1 : n ≤ 9223372036854775807) : Calls Tryd.prog 29 #[.int .i64 n] w fun e w' => e = .returned (.string ⟨(Lib.itoa n).toArray⟩) ∧ Ext w w' := by
  by_cases hn : n < 0
  · have hw := rwhole_any n.natAbs w (by omega)
    have hi : Lib.itoa n = 45 :: Lib.decDigits n.natAbs := by unfold Lib.itoa; rw [if_pos hn]
    have hln := Lib.decDigits_length n.natAbs
    have hnd := nDigits_le 19 n.natAbs (by omega)
    rw [hi]
    have hz : ∀ x : Int, IntKind.u64.wrap x = x % 18446744073709551616 := fun x => by simp [IntKind.wrap, IntKind.bits, IntKind.signed]
    have hw1 : IntKind.u64.wrap (0 - IntKind.u64.wrap n) = ((n.natAbs : Nat) : Int) := by rw [hz, hz]; omega
    have hw2 : IntKind.u64.wrap (-IntKind.u64.wrap n) = ((n.natAbs : Nat) : Int) := by rw [hz, hz]; omega
    have hw3 : n % 18446744073709551616 = n + 18446744073709551616 := by omega
    obtain ⟨D, hD⟩ : ∃ D, D = Lib.decDigits n.natAbs := ⟨_, rfl⟩
    rw [← hD] at hw hln ⊢
    obtain ⟨m, hm⟩ : ∃ m, m = n.natAbs := ⟨_, rfl⟩
    have hmn : (m : Int) = -n := by omega
    rw [← hm] at hw hw1 hw2
    have hDl : D.length ≤ 100 := by omega
    have hcat : (ByteArray.mk #[45] ++ ByteArray.mk D.toArray) = ⟨(45 :: D).toArray⟩ := cat2 [45] D
    rw [hmn] at hw
    replace hw := hide hw
    replace hcat := hide hcat
    clear hi hln hnd hD hz
    replace hm := hide hm
    go_enter Tryd.func29, Tryd.ntmps29
    go_wp2_with fail
    refine hw.out.mono ?_
    rintro e w1 ⟨rfl, hE⟩
    go_wp2_with fail
    go_ret
    exact ⟨ret_str2 hcat.out, hE⟩
  · have hw := rwhole_any n.toNat w (by omega)
    have hi : Lib.itoa n = Lib.decDigits n.toNat := by unfold Lib.itoa; rw [if_neg hn]
    rw [hi]
    rw [show ((n.toNat : Nat) : Int) = n by omega] at hw
    obtain ⟨D, hD⟩ : ∃ D, D = Lib.decDigits n.toNat := ⟨_, rfl⟩
    rw [← hD] at hw ⊢
    replace hw := hide hw
    clear hi hD
    go_enter Tryd.func29, Tryd.ntmps29
    go_wp2_with fail
    refine hw.out.mono ?_
    rintro e w1 ⟨rfl, hE⟩
    go_wp2_with fail
    go_ret
    exact ⟨rfl, hE⟩
set_option maxRecDepth 100000 in
set_option maxHeartbeats 4000000 in
theorem rformat_any (e : Ev) (A : Option Addr) (c : Nat) (w : World) (h : e.Ok w A) (hat : -9223372036854775808 ≤ e.at_ ∧ e.at_ ≤ 9223372036854775807) : Calls Tryd.prog 10 #[e.val A c] w fun en w' => FmtP w e en w' := by
  have hck := fun W (hE : Ext w W) => recheck_any e A c W (h.ext hE)
  have hit := fun W => rnum_any e.at_ W hat.1 hat.2
  have hil := itoa_len hat.1 hat.2
  have hok := @checkE_ok e.fs
  obtain ⟨at_, fs⟩ := e
  obtain ⟨hc, hm, hl⟩ := h
  unfold Ev.val FmtP at *
  simp only at hc hm hl hck hit hil hok hat ⊢
  obtain ⟨k, hk⟩ : ∃ k, k = checkE fs := ⟨_, rfl⟩
  rw [← hk] at hck hok ⊢
  obtain ⟨n, hn⟩ : ∃ n, n = fs.length := ⟨_, rfl⟩
  rw [← hn] at hck hok hm ⊢
  replace hn := hide hn
  replace hck := hide hck
  replace hit := hide hit
  have hEW : Ext w (w.alloc (.cells #[.int .i64 at_, .slice A n c] 24)) := (Ext.refl w).alloc _
  by_cases hk0 : k = 0
  case neg =>
    rw [if_neg hk0]
    have hki : ¬ (k : Int) = 0 := by omega
    clear hk hok hk0
    go_enter Tryd.func10, Tryd.ntmps10
    go_wp2_with fail
    refine (hck.out _ hEW).mono ?_
    rintro en w1 ⟨rfl, hE1⟩
    go_wp2_with fail
    go_ret2
    exact ⟨rfl, hEW.trans hE1⟩
  case pos =>
    subst hk0
    rw [if_pos rfl]
    obtain ⟨hn16, hfl⟩ := hok rfl
    replace hfl := hide hfl
    clear hk hok
    go_enter Tryd.func10, Tryd.ntmps10
    go_wp2_with fail
    refine (hck.out _ hEW).mono ?_
    rintro en w1 ⟨rfl, hE1⟩
    have hr1 : Row w1 w.heap.size 24 #[.int .i64 at_, .slice A n c] := (Row.new w _ _).ext hE1
    have x0 : w1.cell? ⟨w.heap.size, 0, none⟩ = some (.int .i64 at_) := hr1.cell 0 rfl
    have hEB := hEW.trans hE1
    go_wp2_with fail
    refine (hit.out w1).mono ?_
    rintro en W0 ⟨rfl, hE3⟩
    have hfm0 : fmtL at_ (fs.take 0) = Lib.itoa at_ := by unfold fmtL; simp
    have hflen : ∀ i, i ≤ 16 → (fmtL at_ (fs.take i)).length ≤ 100 + 20000 * i := fun i => by
      induction i with
      | zero => intro _; rw [hfm0]; omega
      | succ i ih =>
        intro h
        by_cases hif : i < fs.length
        · obtain ⟨f, hf⟩ : ∃ f, fs[i]? = some f := ⟨_, List.getElem?_eq_getElem hif⟩
          rw [fmtL_take hf, List.length_append]
          have h1 := hfl.out f (List.mem_of_getElem? hf)
          have := fieldL_len h1.1 h1.2
          have := ih (by omega)
          omega
        · rw [List.take_of_length_le (by omega)]
          have h2 := ih (by omega)
          rw [List.take_of_length_le (by omega)] at h2
          omega
    have hqu := fun t W (h : t.length ≤ 1000000) => rquote_any t W h
    have hr0 := hr1.ext hE3
    have hc0 := (hc.ext hEB).ext hE3
    have hE0 := hide (hEB.trans hE3)
    obtain ⟨L, hL⟩ : ∃ L, L = Lib.itoa at_ := ⟨_, rfl⟩
    rw [← hL] at hfm0 ⊢
    replace hL := hide hL
    replace hfm0 := hide hfm0
    replace hqu := hide hqu
    replace hflen := hide hflen
    clear x0 hr1
    go_wp2_with fail
    go_loopw [5, 6] (fun s5 s6 wr => ∃ (i : Nat) (K : List UInt8), s6 = .int .i64 i ∧ i ≤ n ∧ s5 = .string ⟨K.toArray⟩ ∧ Hid (K = fmtL at_ (fs.take i)) ∧ Hid (Ext W0 wr)) (fun _ s6 _ => n - (intOf s6).toNat)
    case atStart => exact ⟨0, L, rfl, by omega, rfl, hide hfm0.out.symm, hide (Ext.refl _)⟩
    case round =>
      obtain ⟨i, K, rfl, hi, rfl, hK, hE⟩ := hrel
      have y1 : wr.cell? ⟨w.heap.size, 1, none⟩ = some (.slice A n c) := (hr0.ext hE.out).cell 1 rfl
      by_cases hin : i < n
      · have hilf : i < fs.length := by rw [← hn.out]; exact hin
        obtain ⟨f, hf⟩ : ∃ f, fs[i]? = some f := ⟨_, List.getElem?_eq_getElem hilf⟩
        obtain ⟨g, o, rfl, k0, k1⟩ := fcells_at (hc0.ext hE.out) hf
        have hl1 := hfl.out f (List.mem_of_getElem? hf)
        have hfmt := fmtL_take (at_ := at_) hf
        have hfll := hflen.out i (by omega)
        rw [← hK.out] at hfll hfmt
        unfold strV at k0 k1
        obtain ⟨nm, tx⟩ := f
        simp only at k0 k1 hl1
        obtain ⟨q, hq⟩ : ∃ q, q = quoteL tx := ⟨_, rfl⟩
        have hql := quote_len tx
        have hqb : q.length ≤ 20000 := by rw [hq]; omega
        have hqt := fun W => hqu.out tx W (by omega)
        obtain ⟨hl1a, hl1b⟩ := hl1
        have hcat : (ByteArray.mk K.toArray ++ ByteArray.mk #[32] ++ ⟨nm.toArray⟩ ++ ⟨#[61]⟩ ++ ⟨q.toArray⟩) = ⟨(fmtL at_ (fs.take (i + 1))).toArray⟩ := by
          rw [show (#[32] : Array UInt8) = ([32] : List UInt8).toArray from rfl, show (#[61] : Array UInt8) = ([61] : List UInt8).toArray from rfl, cat2, cat2, cat2, cat2, hq, hfmt]
          unfold fieldL
          simp
        rw [← hq] at hqt
        have hS : ∀ x y, (x.cell? ⟨w.heap.size, 1, none⟩ = some (.slice (some ⟨g, o, none⟩) n c) ∧ x.cell? ⟨g, o + i * 2, none⟩ = some (.string ⟨nm.toArray⟩) ∧ x.cell? ⟨g, o + i * 2 + 1, none⟩ = some (.string ⟨tx.toArray⟩) ∧ Ext W0 x) → Ext x y → (y.cell? ⟨w.heap.size, 1, none⟩ = some (.slice (some ⟨g, o, none⟩) n c) ∧ y.cell? ⟨g, o + i * 2, none⟩ = some (.string ⟨nm.toArray⟩) ∧ y.cell? ⟨g, o + i * 2 + 1, none⟩ = some (.string ⟨tx.toArray⟩) ∧ Ext W0 y) := fun x y ⟨h0, h1, h2, h⟩ hE => ⟨hE.cell h0, hE.cell h1, hE.cell h2, h.trans hE⟩
        have hS0 : wr.cell? ⟨w.heap.size, 1, none⟩ = some (.slice (some ⟨g, o, none⟩) n c) ∧ wr.cell? ⟨g, o + i * 2, none⟩ = some (.string ⟨nm.toArray⟩) ∧ wr.cell? ⟨g, o + i * 2 + 1, none⟩ = some (.string ⟨tx.toArray⟩) ∧ Ext W0 wr := ⟨y1, k0, k1, hE.out⟩
        have hS1 := hS _ _ hS0 (Ext.refl wr).drew
        have hqS : ∀ x, (x.cell? ⟨w.heap.size, 1, none⟩ = some (.slice (some ⟨g, o, none⟩) n c) ∧ x.cell? ⟨g, o + i * 2, none⟩ = some (.string ⟨nm.toArray⟩) ∧ x.cell? ⟨g, o + i * 2 + 1, none⟩ = some (.string ⟨tx.toArray⟩) ∧ Ext W0 x) → Calls Tryd.prog 18 #[.string ⟨tx.toArray⟩] x fun e y => e = .returned (.string ⟨q.toArray⟩) ∧ (y.cell? ⟨w.heap.size, 1, none⟩ = some (.slice (some ⟨g, o, none⟩) n c) ∧ y.cell? ⟨g, o + i * 2, none⟩ = some (.string ⟨nm.toArray⟩) ∧ y.cell? ⟨g, o + i * 2 + 1, none⟩ = some (.string ⟨tx.toArray⟩) ∧ Ext W0 y) := fun x h => (hqt x).mono fun e y ⟨h1, h2⟩ => ⟨h1, hS _ _ h h2⟩
        have hx : ∀ x, (x.cell? ⟨w.heap.size, 1, none⟩ = some (.slice (some ⟨g, o, none⟩) n c) ∧ x.cell? ⟨g, o + i * 2, none⟩ = some (.string ⟨nm.toArray⟩) ∧ x.cell? ⟨g, o + i * 2 + 1, none⟩ = some (.string ⟨tx.toArray⟩) ∧ Ext W0 x) → Ext W0 x := fun x h => h.2.2.2
        have hi0 : (0 : Int) ≤ i := by omega
        have hi1 : (i : Int) < n := by omega
        have hs1 : K.length ≤ 9223372036854775806 := by omega
        have hs2 : K.length + 1 + nm.length ≤ 9223372036854775807 := by omega
        have hs3 : K.length + 1 + nm.length ≤ 9223372036854775806 := by omega
        have hs4 : K.length + 1 + nm.length + 1 + q.length ≤ 9223372036854775807 := by omega
        replace hS0 := hide hS0
        replace hS1 := hide hS1
        replace hqS := hide hqS
        replace hx := hide hx
        replace hcat := hide hcat
        clear hf hq hql hfmt hS hqt
        go_wp2_with fail
        refine wp_region_held_drew (S := fun x => x.cell? ⟨w.heap.size, 1, none⟩ = some (.slice (some ⟨g, o, none⟩) n c) ∧ x.cell? ⟨g, o + i * 2, none⟩ = some (.string ⟨nm.toArray⟩) ∧ x.cell? ⟨g, o + i * 2 + 1, none⟩ = some (.string ⟨tx.toArray⟩) ∧ Ext W0 x) (by kernel_rfl) hS1.out (fun hHeld => ?_)
        refine wpAnyH_take (i := 0) (v := .string ⟨K.toArray⟩) rfl (by kernel_rfl) (by kernel_rfl) (by kernel_rfl) (fun _ _ _ h => h) (Or.inl ⟨by rfl, ?_⟩) (by assumption) ?_
        · intro w' hSw
          (try dsimp only at hSw)
          obtain ⟨z1, z2, z3, z4⟩ := hSw
          go_simp
          try with_reducible rfl
          all_goals omega
        (try simp only [Act.put, List.setIfInBounds_toArray, List.set_cons_zero, List.set_cons_succ, List.getElem_toArray, List.getElem_cons_zero, List.getElem_cons_succ])
        refine wpAnyH_take (i := 1) (v := .string (⟨K.toArray⟩ ++ ⟨#[32]⟩)) rfl (by kernel_rfl) (by kernel_rfl) (by kernel_rfl) (fun _ _ _ h => h) (Or.inl ⟨by rfl, ?_⟩) (by assumption) ?_
        · intro w' hSw
          (try dsimp only at hSw)
          obtain ⟨z1, z2, z3, z4⟩ := hSw
          go_simp
          try with_reducible rfl
          all_goals omega
        (try simp only [Act.put, List.setIfInBounds_toArray, List.set_cons_zero, List.set_cons_succ, List.getElem_toArray, List.getElem_cons_zero, List.getElem_cons_succ])
        refine wpAnyH_take (i := 2) (v := .pointer (some ⟨w.heap.size, 1, none⟩)) rfl (by kernel_rfl) (by kernel_rfl) (by kernel_rfl) (fun _ _ _ h => h) (Or.inl ⟨by rfl, ?_⟩) (by assumption) ?_
        · intro w' hSw
          (try dsimp only at hSw)
          obtain ⟨z1, z2, z3, z4⟩ := hSw
          go_simp
          try with_reducible rfl
          all_goals omega
        (try simp only [Act.put, List.setIfInBounds_toArray, List.set_cons_zero, List.set_cons_succ, List.getElem_toArray, List.getElem_cons_zero, List.getElem_cons_succ])
        refine wpAnyH_take (i := 3) (v := .slice (some ⟨g, o, none⟩) n c) rfl (by kernel_rfl) (by kernel_rfl) (by kernel_rfl) (fun _ _ _ h => h) (Or.inl ⟨by rfl, ?_⟩) (by assumption) ?_
        · intro w' hSw
          (try dsimp only at hSw)
          obtain ⟨z1, z2, z3, z4⟩ := hSw
          go_simp
          try with_reducible rfl
          all_goals omega
        (try simp only [Act.put, List.setIfInBounds_toArray, List.set_cons_zero, List.set_cons_succ, List.getElem_toArray, List.getElem_cons_zero, List.getElem_cons_succ])
        refine wpAnyH_take (i := 4) (v := .int .i64 (i : Int)) rfl (by kernel_rfl) (by kernel_rfl) (by kernel_rfl) (fun _ _ _ h => h) (Or.inl ⟨by rfl, ?_⟩) (by assumption) ?_
        · intro w' hSw
          (try dsimp only at hSw)
          obtain ⟨z1, z2, z3, z4⟩ := hSw
          go_simp
          try with_reducible rfl
          all_goals omega
        (try simp only [Act.put, List.setIfInBounds_toArray, List.set_cons_zero, List.set_cons_succ, List.getElem_toArray, List.getElem_cons_zero, List.getElem_cons_succ])
        refine wpAnyH_take (i := 5) (v := .pointer (some ⟨g, o + i * 2, none⟩)) rfl (by kernel_rfl) (by kernel_rfl) (by kernel_rfl) (fun _ _ _ h => h) (Or.inl ⟨by rfl, ?_⟩) (by assumption) ?_
        · intro w' hSw
          (try dsimp only at hSw)
          obtain ⟨z1, z2, z3, z4⟩ := hSw
          go_simp
          try with_reducible rfl
          all_goals omega
        (try simp only [Act.put, List.setIfInBounds_toArray, List.set_cons_zero, List.set_cons_succ, List.getElem_toArray, List.getElem_cons_zero, List.getElem_cons_succ])
        refine wpAnyH_take (i := 6) (v := .pointer (some ⟨g, o + i * 2, none⟩)) rfl (by kernel_rfl) (by kernel_rfl) (by kernel_rfl) (fun _ _ _ h => h) (Or.inl ⟨by rfl, ?_⟩) (by assumption) ?_
        · intro w' hSw
          (try dsimp only at hSw)
          obtain ⟨z1, z2, z3, z4⟩ := hSw
          go_simp
          try with_reducible rfl
          all_goals omega
        (try simp only [Act.put, List.setIfInBounds_toArray, List.set_cons_zero, List.set_cons_succ, List.getElem_toArray, List.getElem_cons_zero, List.getElem_cons_succ])
        refine wpAnyH_take (i := 7) (v := .string ⟨nm.toArray⟩) rfl (by kernel_rfl) (by kernel_rfl) (by kernel_rfl) (fun _ _ _ h => h) (Or.inl ⟨by rfl, ?_⟩) (by assumption) ?_
        · intro w' hSw
          (try dsimp only at hSw)
          obtain ⟨z1, z2, z3, z4⟩ := hSw
          go_simp
          try with_reducible rfl
          all_goals omega
        (try simp only [Act.put, List.setIfInBounds_toArray, List.set_cons_zero, List.set_cons_succ, List.getElem_toArray, List.getElem_cons_zero, List.getElem_cons_succ])
        refine wpAnyH_take (i := 8) (v := .string (⟨K.toArray⟩ ++ ⟨#[32]⟩ ++ ⟨nm.toArray⟩)) rfl (by kernel_rfl) (by kernel_rfl) (by kernel_rfl) (fun _ _ _ h => h) (Or.inl ⟨by rfl, ?_⟩) (by assumption) ?_
        · intro w' hSw
          (try dsimp only at hSw)
          obtain ⟨z1, z2, z3, z4⟩ := hSw
          go_simp
          try with_reducible rfl
          all_goals omega
        (try simp only [Act.put, List.setIfInBounds_toArray, List.set_cons_zero, List.set_cons_succ, List.getElem_toArray, List.getElem_cons_zero, List.getElem_cons_succ])
        refine wpAnyH_take (i := 9) (v := .string (⟨K.toArray⟩ ++ ⟨#[32]⟩ ++ ⟨nm.toArray⟩ ++ ⟨#[61]⟩)) rfl (by kernel_rfl) (by kernel_rfl) (by kernel_rfl) (fun _ _ _ h => h) (Or.inl ⟨by rfl, ?_⟩) (by assumption) ?_
        · intro w' hSw
          (try dsimp only at hSw)
          obtain ⟨z1, z2, z3, z4⟩ := hSw
          go_simp
          try with_reducible rfl
          all_goals omega
        (try simp only [Act.put, List.setIfInBounds_toArray, List.set_cons_zero, List.set_cons_succ, List.getElem_toArray, List.getElem_cons_zero, List.getElem_cons_succ])
        refine wpAnyH_take (i := 10) (v := .pointer (some ⟨w.heap.size, 1, none⟩)) rfl (by kernel_rfl) (by kernel_rfl) (by kernel_rfl) (fun _ _ _ h => h) (Or.inl ⟨by rfl, ?_⟩) (by assumption) ?_
        · intro w' hSw
          (try dsimp only at hSw)
          obtain ⟨z1, z2, z3, z4⟩ := hSw
          go_simp
          try with_reducible rfl
          all_goals omega
        (try simp only [Act.put, List.setIfInBounds_toArray, List.set_cons_zero, List.set_cons_succ, List.getElem_toArray, List.getElem_cons_zero, List.getElem_cons_succ])
        refine wpAnyH_take (i := 11) (v := .slice (some ⟨g, o, none⟩) n c) rfl (by kernel_rfl) (by kernel_rfl) (by kernel_rfl) (fun _ _ _ h => h) (Or.inl ⟨by rfl, ?_⟩) (by assumption) ?_
        · intro w' hSw
          (try dsimp only at hSw)
          obtain ⟨z1, z2, z3, z4⟩ := hSw
          go_simp
          try with_reducible rfl
          all_goals omega
        (try simp only [Act.put, List.setIfInBounds_toArray, List.set_cons_zero, List.set_cons_succ, List.getElem_toArray, List.getElem_cons_zero, List.getElem_cons_succ])
        refine wpAnyH_take (i := 12) (v := .int .i64 (i : Int)) rfl (by kernel_rfl) (by kernel_rfl) (by kernel_rfl) (fun _ _ _ h => h) (Or.inl ⟨by rfl, ?_⟩) (by assumption) ?_
        · intro w' hSw
          (try dsimp only at hSw)
          obtain ⟨z1, z2, z3, z4⟩ := hSw
          go_simp
          try with_reducible rfl
          all_goals omega
        (try simp only [Act.put, List.setIfInBounds_toArray, List.set_cons_zero, List.set_cons_succ, List.getElem_toArray, List.getElem_cons_zero, List.getElem_cons_succ])
        refine wpAnyH_take (i := 13) (v := .pointer (some ⟨g, o + i * 2, none⟩)) rfl (by kernel_rfl) (by kernel_rfl) (by kernel_rfl) (fun _ _ _ h => h) (Or.inl ⟨by rfl, ?_⟩) (by assumption) ?_
        · intro w' hSw
          (try dsimp only at hSw)
          obtain ⟨z1, z2, z3, z4⟩ := hSw
          go_simp
          try with_reducible rfl
          all_goals omega
        (try simp only [Act.put, List.setIfInBounds_toArray, List.set_cons_zero, List.set_cons_succ, List.getElem_toArray, List.getElem_cons_zero, List.getElem_cons_succ])
        refine wpAnyH_take (i := 14) (v := .pointer (some ⟨g, o + i * 2 + 1, none⟩)) rfl (by kernel_rfl) (by kernel_rfl) (by kernel_rfl) (fun _ _ _ h => h) (Or.inl ⟨by rfl, ?_⟩) (by assumption) ?_
        · intro w' hSw
          (try dsimp only at hSw)
          obtain ⟨z1, z2, z3, z4⟩ := hSw
          go_simp
          try with_reducible rfl
          all_goals omega
        (try simp only [Act.put, List.setIfInBounds_toArray, List.set_cons_zero, List.set_cons_succ, List.getElem_toArray, List.getElem_cons_zero, List.getElem_cons_succ])
        refine wpAnyH_take (i := 15) (v := .string ⟨tx.toArray⟩) rfl (by kernel_rfl) (by kernel_rfl) (by kernel_rfl) (fun _ _ _ h => h) (Or.inl ⟨by rfl, ?_⟩) (by assumption) ?_
        · intro w' hSw
          (try dsimp only at hSw)
          obtain ⟨z1, z2, z3, z4⟩ := hSw
          go_simp
          try with_reducible rfl
          all_goals omega
        (try simp only [Act.put, List.setIfInBounds_toArray, List.set_cons_zero, List.set_cons_succ, List.getElem_toArray, List.getElem_cons_zero, List.getElem_cons_succ])
        refine wpAnyH_ready (rs := [16]) (by kernel_rfl) (by simp) ?_
        refine AllReadyH.cons rfl (fun K hK => ?_) AllReadyH.nil
        (first | go_at_call 18 | (go_simp; go_at_call 18)); (refine (hqS.out _ ‹_›).mono ?_; rintro en w5 ⟨rfl, hSc⟩)
        refine hK.out _ _ ?_ (fun hHeld1 => ?_)
        · exact hSc
        clear hK K
        (try simp only [Act.put, List.setIfInBounds_toArray, List.set_cons_zero, List.set_cons_succ, List.getElem_toArray, List.getElem_cons_zero, List.getElem_cons_succ])
        refine wpAnyH_take (i := 17) (v := .string (⟨K.toArray⟩ ++ ⟨#[32]⟩ ++ ⟨nm.toArray⟩ ++ ⟨#[61]⟩ ++ ⟨q.toArray⟩)) rfl (by kernel_rfl) (by kernel_rfl) (by kernel_rfl) (fun _ _ _ h => h) (Or.inl ⟨by rfl, ?_⟩) (by assumption) ?_
        · intro w' hSw
          (try dsimp only at hSw)
          obtain ⟨z1, z2, z3, z4⟩ := hSw
          go_simp
          try with_reducible rfl
          all_goals omega
        (try simp only [Act.put, List.setIfInBounds_toArray, List.set_cons_zero, List.set_cons_succ, List.getElem_toArray, List.getElem_cons_zero, List.getElem_cons_succ])
        refine wpAnyH_take (i := 18) (v := .string (⟨K.toArray⟩ ++ ⟨#[32]⟩ ++ ⟨nm.toArray⟩ ++ ⟨#[61]⟩ ++ ⟨q.toArray⟩)) rfl (by kernel_rfl) (by kernel_rfl) (by kernel_rfl) (fun _ _ _ h => h) (Or.inl ⟨by rfl, ?_⟩) (by assumption) ?_
        · intro w' hSw
          (try dsimp only at hSw)
          obtain ⟨z1, z2, z3, z4⟩ := hSw
          go_simp
          try with_reducible rfl
          all_goals omega
        (try simp only [Act.put, List.setIfInBounds_toArray, List.set_cons_zero, List.set_cons_succ, List.getElem_toArray, List.getElem_cons_zero, List.getElem_cons_succ])
        refine wpAnyH_done (by kernel_rfl) ?_ _
        go_wp2_with fail
        have hEn := hide (hx.out _ ‹_›)
        go_roundw
        case rel => exact ⟨i + 1, fmtL at_ (fs.take (i + 1)), by go_num, by omega, by rw [hcat.out], hide rfl, hEn⟩
        case measure => simp [intOf]; omega
      · have hall : fs.take i = fs := List.take_of_length_le (by rw [← hn.out]; omega)
        rw [hall] at hK
        go_wp2_with fail
        go_ret2
        obtain rfl := hK.out
        exact ⟨rfl, hE0.out.trans hE.out⟩
end Go.Proofs.YtpajpdkliohepaaDoor
