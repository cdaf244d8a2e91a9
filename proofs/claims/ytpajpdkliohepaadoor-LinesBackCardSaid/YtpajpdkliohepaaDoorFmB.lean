/- loggiaref31: whole, Num. -/
import Derived.Test.YtpajpdkliohepaaDoorFmA
namespace Go.Proofs.YtpajpdkliohepaaDoor
open Go.RowKit

theorem one_str {b : Nat} (hb : b < 256) {z : Int} (hz : z = (b : Int)) (W : World) : ∀ cc, (convert 55 9 (.slice (some ⟨W.heap.size, 0, none⟩) 1 cc)).run Tryd.prog (W.alloc (.cells #[.int .u8 z] 5)) = .ok (.string ⟨[UInt8.ofNat b].toArray⟩) (W.alloc (.cells #[.int .u8 z] 5)) := fun cc => by
  subst hz
  have hB : Bs (W.alloc (.cells #[.int .u8 (b : Int)] 5)) (some ⟨W.heap.size, 0, none⟩) [UInt8.ofNat b] := by
    refine .inr ⟨W.heap.size, 0, rfl, fun i v hv => ?_⟩
    have hr := Row.new W 5 #[.int .u8 (b : Int)]
    rw [Nat.zero_add]
    refine hr.cell i ?_
    unfold B8 at hv
    simp only [List.map_cons, List.map_nil, UInt8.toNat_ofNat', Nat.mod_eq_of_lt (show b < 2 ^ 8 by omega)] at hv
    simpa using hv
  exact run_str hB 1 cc rfl
theorem ret_str2 {a b : ByteArray} (h : a = b) : Ending.returned (.string a) = .returned (.string b) := by rw [h]
theorem one_str2 {y : UInt8} (W W' : World) (z : Int) (hst : ∀ (W : World) (cc : Nat), (convert 55 9 (.slice (some ⟨W.heap.size, 0, none⟩) 1 cc)).run Tryd.prog (W.alloc (.cells #[.int .u8 z] 5)) = .ok (.string ⟨#[y]⟩) (W.alloc (.cells #[.int .u8 z] 5)) ∧ Bs (W.alloc (.cells #[.int .u8 z] 5)) (some ⟨W.heap.size, 0, none⟩) [y]) (hE : Ext (W.alloc (.cells #[.int .u8 z] 5)) W') :
    ∀ cc, (convert 55 9 (.slice (some ⟨W.heap.size, 0, none⟩) 1 cc)).run Tryd.prog W' = .ok (.string ⟨#[y]⟩) W' := fun cc => run_str ((hst W 0).2.ext hE) 1 cc rfl
theorem one_bs {b : Nat} (hb : b < 256) {z : Int} (hz : z = (b : Int)) (W : World) : Bs (W.alloc (.cells #[.int .u8 z] 5)) (some ⟨W.heap.size, 0, none⟩) [UInt8.ofNat b] := by
  subst hz
  refine .inr ⟨W.heap.size, 0, rfl, fun i v hv => ?_⟩
  have hr := Row.new W 5 #[.int .u8 (b : Int)]
  rw [Nat.zero_add]
  refine hr.cell i ?_
  unfold B8 at hv
  simp only [List.map_cons, List.map_nil, UInt8.toNat_ofNat', Nat.mod_eq_of_lt (show b < 2 ^ 8 by omega)] at hv
  simpa using hv
set_option maxRecDepth 100000 in
set_option maxHeartbeats 1000000 in
theorem rwhole_any : ∀ (u : Nat) (w : World), u < 18446744073709551616 → Calls Tryd.prog 44 #[.int .u64 (u : Int)] w fun e w' => e = .returned (.string ⟨(Lib.decDigits u).toArray⟩) ∧ Ext w w' := by
  intro u
  induction u using Nat.strongRecOn with
  | ind u ih =>
    intro w hu
    by_cases h10 : u < 10
    · have hst := one_str (b := 48 + u) (by omega) (z := 48 + (u : Int)) (by omega) w
      have hd : Lib.decDigits u = [UInt8.ofNat (48 + u)] := by
        rw [Lib.decDigits, dif_pos h10]
      rw [hd]
      obtain ⟨y, hy⟩ : ∃ y, y = UInt8.ofNat (48 + u) := ⟨_, rfl⟩
      rw [← hy] at hst ⊢
      clear ih hd hy
      go_enter Tryd.func44, Tryd.ntmps44
      go_wp2_with fail
      go_ret
      exact ⟨rfl, (Ext.refl w).alloc _⟩
    · have hih : ∀ W, Calls Tryd.prog 44 #[.int .u64 ((u : Int) / 10)] W fun e w' => e = .returned (.string ⟨(Lib.decDigits (u / 10)).toArray⟩) ∧ Ext W w' := fun W => by
        have h := ih (u / 10) (by omega) W (by omega)
        rw [show ((u / 10 : Nat) : Int) = (u : Int) / 10 by omega] at h
        exact h
      have hst := fun W cc => one_str (b := 48 + u % 10) (by omega) (z := 48 + (u : Int) % 10) (by omega) W cc
      have hst0 := fun W (cc : Nat) => And.intro (hst W cc) (one_bs (b := 48 + u % 10) (by omega) (z := 48 + (u : Int) % 10) (by omega) W)
      have hd : Lib.decDigits u = Lib.decDigits (u / 10) ++ [UInt8.ofNat (48 + u % 10)] := by
        rw [Lib.decDigits, dif_neg h10]
      have hln := Lib.decDigits_length (u / 10)
      have hnd := nDigits_le 19 (u / 10) (by omega)
      rw [hd]
      obtain ⟨D, hD⟩ : ∃ D, D = Lib.decDigits (u / 10) := ⟨_, rfl⟩
      obtain ⟨y, hy⟩ : ∃ y, y = UInt8.ofNat (48 + u % 10) := ⟨_, rfl⟩
      rw [← hy] at hst hst0 ⊢
      rw [← hD] at hih hln ⊢
      have hDl : D.length ≤ 20 := by omega
      have hcat : (ByteArray.mk D.toArray ++ ByteArray.mk #[y]) = ⟨(D ++ [y]).toArray⟩ := cat2 D [y]
      have hw1 : IntKind.u64.wrap ((u : Int) / 10) = (u : Int) / 10 := by simp [IntKind.wrap, IntKind.bits, IntKind.signed]; omega
      have hw2 : IntKind.u64.wrap (48 + (u : Int) % 10) = 48 + (u : Int) % 10 := by simp [IntKind.wrap, IntKind.bits, IntKind.signed]; omega
      have hw3 : IntKind.u8.wrap (48 + (u : Int) % 10) = 48 + (u : Int) % 10 := by simp [IntKind.wrap, IntKind.bits, IntKind.signed]; omega
      have hw4 : (u : Int).tmod 10 = (u : Int) % 10 := Int.tmod_eq_emod_of_nonneg (by omega)
      have hw5 : IntKind.u64.wrap ((u : Int) % 10) = (u : Int) % 10 := by simp [IntKind.wrap, IntKind.bits, IntKind.signed]; omega
      have hstd := one_str2 (y := y) w _ (48 + (u : Int) % 10) hst0 (Ext.refl (w.alloc (.cells #[.int .u8 (48 + (u : Int) % 10)] 5))).drew
      replace hcat := hide hcat
      replace hih := hide hih
      replace hst0 := hide hst0
      clear ih hd hln hnd hD hy
      go_enter Tryd.func44, Tryd.ntmps44
      go_wp2_with fail
      refine wp_region_held_drew (S := fun _ => True) (by kernel_rfl) trivial (fun hHeld => ?_)
      refine wpAnyH_take (i := 0) (v := .int .u64 (u : Int)) rfl (by kernel_rfl) (by kernel_rfl) (by kernel_rfl) (fun _ _ _ h => h) (Or.inl ⟨by rfl, ?_⟩) (by assumption) ?_
      · intro w' hSw
        (try dsimp only at hSw)
        go_simp
        try with_reducible rfl
        all_goals omega
      (try simp only [Act.put, List.setIfInBounds_toArray, List.set_cons_zero, List.set_cons_succ, List.getElem_toArray, List.getElem_cons_zero, List.getElem_cons_succ])
      refine wpAnyH_take (i := 1) (v := .int .u64 ((u : Int) / 10)) rfl (by kernel_rfl) (by kernel_rfl) (by kernel_rfl) (fun _ _ _ h => h) (Or.inl ⟨by rfl, ?_⟩) (by assumption) ?_
      · intro w' hSw
        (try dsimp only at hSw)
        go_simp
        try with_reducible rfl
        all_goals omega
      (try simp only [Act.put, List.setIfInBounds_toArray, List.set_cons_zero, List.set_cons_succ, List.getElem_toArray, List.getElem_cons_zero, List.getElem_cons_succ])
      refine wpAnyH_take (i := 3) (v := .int .u64 (u : Int)) rfl (by kernel_rfl) (by kernel_rfl) (by kernel_rfl) (fun _ _ _ h => h) (Or.inl ⟨by rfl, ?_⟩) (by assumption) ?_
      · intro w' hSw
        (try dsimp only at hSw)
        go_simp
        try with_reducible rfl
        all_goals omega
      (try simp only [Act.put, List.setIfInBounds_toArray, List.set_cons_zero, List.set_cons_succ, List.getElem_toArray, List.getElem_cons_zero, List.getElem_cons_succ])
      refine wpAnyH_take (i := 4) (v := .int .u64 ((u : Int) % 10)) rfl (by kernel_rfl) (by kernel_rfl) (by kernel_rfl) (fun _ _ _ h => h) (Or.inl ⟨by rfl, ?_⟩) (by assumption) ?_
      · intro w' hSw
        (try dsimp only at hSw)
        go_simp
        try with_reducible rfl
        all_goals omega
      (try simp only [Act.put, List.setIfInBounds_toArray, List.set_cons_zero, List.set_cons_succ, List.getElem_toArray, List.getElem_cons_zero, List.getElem_cons_succ])
      refine wpAnyH_take (i := 5) (v := .int .u64 (48 + (u : Int) % 10)) rfl (by kernel_rfl) (by kernel_rfl) (by kernel_rfl) (fun _ _ _ h => h) (Or.inl ⟨by rfl, ?_⟩) (by assumption) ?_
      · intro w' hSw
        (try dsimp only at hSw)
        go_simp
        try with_reducible rfl
        all_goals omega
      (try simp only [Act.put, List.setIfInBounds_toArray, List.set_cons_zero, List.set_cons_succ, List.getElem_toArray, List.getElem_cons_zero, List.getElem_cons_succ])
      refine wpAnyH_take (i := 6) (v := .int .u8 (48 + (u : Int) % 10)) rfl (by kernel_rfl) (by kernel_rfl) (by kernel_rfl) (fun _ _ _ h => h) (Or.inl ⟨by rfl, ?_⟩) (by assumption) ?_
      · intro w' hSw
        (try dsimp only at hSw)
        go_simp
        try with_reducible rfl
        all_goals omega
      (try simp only [Act.put, List.setIfInBounds_toArray, List.set_cons_zero, List.set_cons_succ, List.getElem_toArray, List.getElem_cons_zero, List.getElem_cons_succ])
      refine wpAnyH_ready (rs := [2, 7]) (by kernel_rfl) (by simp) ?_
      refine AllReadyH.cons rfl (fun K hK => ?_) ?_
      · (first | go_at_call 44 | (go_simp; go_at_call 44)); (refine (hih.out _).mono ?_; rintro e w5 ⟨rfl, hE5⟩)
        refine hK.out _ _ ?_ (fun hHeld1 => ?_)
        · exact trivial
        clear hK K
        (try simp only [Act.put, List.setIfInBounds_toArray, List.set_cons_zero, List.set_cons_succ, List.getElem_toArray, List.getElem_cons_zero, List.getElem_cons_succ])
        refine wpAnyH_ready (rs := [7]) (by kernel_rfl) (by simp) ?_
        refine AllReadyH.cons rfl (fun K hK => ?_) AllReadyH.nil
        go_simp
        refine hK.out _ _ ?_ (fun hHeld2 => ?_)
        · exact trivial
        clear hK K
        (try simp only [Act.put, List.setIfInBounds_toArray, List.set_cons_zero, List.set_cons_succ, List.getElem_toArray, List.getElem_cons_zero, List.getElem_cons_succ])
        refine wpAnyH_ready (rs := [8]) (by kernel_rfl) (by simp) ?_
        refine AllReadyH.cons rfl (fun K hK => ?_) AllReadyH.nil
        go_simp
        refine hK.out _ _ ?_ (fun hHeld3 => ?_)
        · exact trivial
        clear hK K
        (try simp only [Act.put, List.setIfInBounds_toArray, List.set_cons_zero, List.set_cons_succ, List.getElem_toArray, List.getElem_cons_zero, List.getElem_cons_succ])
        refine wpAnyH_take (i := 9) (v := .string (⟨D.toArray⟩ ++ ⟨#[y]⟩)) rfl (by kernel_rfl) (by kernel_rfl) (by kernel_rfl) (fun _ _ _ h => h) (Or.inl ⟨by rfl, ?_⟩) (by assumption) ?_
        · intro w' hSw
          (try dsimp only at hSw)
          go_simp
          try with_reducible rfl
          all_goals omega
        (try simp only [Act.put, List.setIfInBounds_toArray, List.set_cons_zero, List.set_cons_succ, List.getElem_toArray, List.getElem_cons_zero, List.getElem_cons_succ])
        refine wpAnyH_take (i := 10) (v := .string (⟨D.toArray⟩ ++ ⟨#[y]⟩)) rfl (by kernel_rfl) (by kernel_rfl) (by kernel_rfl) (fun _ _ _ h => h) (Or.inl ⟨by rfl, ?_⟩) (by assumption) ?_
        · intro w' hSw
          (try dsimp only at hSw)
          go_simp
          try with_reducible rfl
          all_goals omega
        (try simp only [Act.put, List.setIfInBounds_toArray, List.set_cons_zero, List.set_cons_succ, List.getElem_toArray, List.getElem_cons_zero, List.getElem_cons_succ])
        refine wpAnyH_done (by kernel_rfl) ?_ _
        go_wp2_with fail
        go_ret
        exact ⟨ret_str2 hcat.out, by first | exact ((Ext.refl w).drew.trans hE5).alloc _ | exact ((Ext.refl w).drew.alloc _).trans hE5⟩
      refine AllReadyH.cons rfl (fun K hK => ?_) ?_
      · go_simp
        refine hK.out _ _ ?_ (fun hHeld4 => ?_)
        · exact trivial
        clear hK K
        (try simp only [Act.put, List.setIfInBounds_toArray, List.set_cons_zero, List.set_cons_succ, List.getElem_toArray, List.getElem_cons_zero, List.getElem_cons_succ])
        refine wpAnyH_ready (rs := [2, 8]) (by kernel_rfl) (by simp) ?_
        refine AllReadyH.cons rfl (fun K hK => ?_) ?_
        · (first | go_at_call 44 | (go_simp; go_at_call 44)); (refine (hih.out _).mono ?_; rintro e w5 ⟨rfl, hE5⟩)
          have hst5 := one_str2 (y := y) w w5 (48 + (u : Int) % 10) hst0.out ((Ext.refl _).drew.trans hE5)
          refine hK.out _ _ ?_ (fun hHeld5 => ?_)
          · exact trivial
          clear hK K
          (try simp only [Act.put, List.setIfInBounds_toArray, List.set_cons_zero, List.set_cons_succ, List.getElem_toArray, List.getElem_cons_zero, List.getElem_cons_succ])
          refine wpAnyH_ready (rs := [8]) (by kernel_rfl) (by simp) ?_
          refine AllReadyH.cons rfl (fun K hK => ?_) AllReadyH.nil
          go_simp
          refine hK.out _ _ ?_ (fun hHeld6 => ?_)
          · exact trivial
          clear hK K
          (try simp only [Act.put, List.setIfInBounds_toArray, List.set_cons_zero, List.set_cons_succ, List.getElem_toArray, List.getElem_cons_zero, List.getElem_cons_succ])
          refine wpAnyH_take (i := 9) (v := .string (⟨D.toArray⟩ ++ ⟨#[y]⟩)) rfl (by kernel_rfl) (by kernel_rfl) (by kernel_rfl) (fun _ _ _ h => h) (Or.inl ⟨by rfl, ?_⟩) (by assumption) ?_
          · intro w' hSw
            (try dsimp only at hSw)
            go_simp
            try with_reducible rfl
            all_goals omega
          (try simp only [Act.put, List.setIfInBounds_toArray, List.set_cons_zero, List.set_cons_succ, List.getElem_toArray, List.getElem_cons_zero, List.getElem_cons_succ])
          refine wpAnyH_take (i := 10) (v := .string (⟨D.toArray⟩ ++ ⟨#[y]⟩)) rfl (by kernel_rfl) (by kernel_rfl) (by kernel_rfl) (fun _ _ _ h => h) (Or.inl ⟨by rfl, ?_⟩) (by assumption) ?_
          · intro w' hSw
            (try dsimp only at hSw)
            go_simp
            try with_reducible rfl
            all_goals omega
          (try simp only [Act.put, List.setIfInBounds_toArray, List.set_cons_zero, List.set_cons_succ, List.getElem_toArray, List.getElem_cons_zero, List.getElem_cons_succ])
          refine wpAnyH_done (by kernel_rfl) ?_ _
          go_wp2_with fail
          go_ret
          exact ⟨ret_str2 hcat.out, by first | exact ((Ext.refl w).drew.trans hE5).alloc _ | exact ((Ext.refl w).drew.alloc _).trans hE5⟩
        refine AllReadyH.cons rfl (fun K hK => ?_) ?_
        · go_simp
          refine hK.out _ _ ?_ (fun hHeld7 => ?_)
          · exact trivial
          clear hK K
          (try simp only [Act.put, List.setIfInBounds_toArray, List.set_cons_zero, List.set_cons_succ, List.getElem_toArray, List.getElem_cons_zero, List.getElem_cons_succ])
          refine wpAnyH_ready (rs := [2]) (by kernel_rfl) (by simp) ?_
          refine AllReadyH.cons rfl (fun K hK => ?_) AllReadyH.nil
          (first | go_at_call 44 | (go_simp; go_at_call 44)); (refine (hih.out _).mono ?_; rintro e w5 ⟨rfl, hE5⟩)
          refine hK.out _ _ ?_ (fun hHeld8 => ?_)
          · exact trivial
          clear hK K
          (try simp only [Act.put, List.setIfInBounds_toArray, List.set_cons_zero, List.set_cons_succ, List.getElem_toArray, List.getElem_cons_zero, List.getElem_cons_succ])
          refine wpAnyH_take (i := 9) (v := .string (⟨D.toArray⟩ ++ ⟨#[y]⟩)) rfl (by kernel_rfl) (by kernel_rfl) (by kernel_rfl) (fun _ _ _ h => h) (Or.inl ⟨by rfl, ?_⟩) (by assumption) ?_
          · intro w' hSw
            (try dsimp only at hSw)
            go_simp
            try with_reducible rfl
            all_goals omega
          (try simp only [Act.put, List.setIfInBounds_toArray, List.set_cons_zero, List.set_cons_succ, List.getElem_toArray, List.getElem_cons_zero, List.getElem_cons_succ])
          refine wpAnyH_take (i := 10) (v := .string (⟨D.toArray⟩ ++ ⟨#[y]⟩)) rfl (by kernel_rfl) (by kernel_rfl) (by kernel_rfl) (fun _ _ _ h => h) (Or.inl ⟨by rfl, ?_⟩) (by assumption) ?_
          · intro w' hSw
            (try dsimp only at hSw)
            go_simp
            try with_reducible rfl
            all_goals omega
          (try simp only [Act.put, List.setIfInBounds_toArray, List.set_cons_zero, List.set_cons_succ, List.getElem_toArray, List.getElem_cons_zero, List.getElem_cons_succ])
          refine wpAnyH_done (by kernel_rfl) ?_ _
          go_wp2_with fail
          go_ret
          exact ⟨ret_str2 hcat.out, by first | exact ((Ext.refl w).drew.trans hE5).alloc _ | exact ((Ext.refl w).drew.alloc _).trans hE5⟩
        exact AllReadyH.nil
      exact AllReadyH.nil
end Go.Proofs.YtpajpdkliohepaaDoor
