/- loggiaref16: Decode. -/
import Derived.Test.YtaoolpnnomhnoaaGreatDoorS05
import Derived.Test.YtaoolpnnomhnoaaGreatDoorS03
import Derived.Laws.StructEq
import Derived.Deep.QuietTactic
import Derived.BigQuiet
import Derived.Test.YtaoolpnnomhnoaaGreatDoorShelf
set_option linter.unusedSimpArgs false
set_option linter.unusedVariables false
namespace Go.Proofs.YtaoolpnnomhnoaaGreatDoor
open Go.RowKit

theorem decM_e1 {l : List UInt8} {x : Nat} (h : getAll 5 (l.drop 4) = .error x) : decM l = none := by
  unfold decM getM
  rw [h]
theorem decM_e2 {l r : List UInt8} {ns : List Int} {x : Nat} (h : getAll 5 (l.drop 4) = .ok (ns, r)) (h2 : getV 0 r = .error x) : decM l = none := by
  unfold decM getM
  rw [h]
  simp only
  rw [h2]
theorem decM_e3 {l r r2 : List UInt8} {ns : List Int} {v : Nat} (h : getAll 5 (l.drop 4) = .ok (ns, r)) (h2 : getV 0 r = .ok (v, r2)) (h3 : 512 < v) : decM l = none := by
  unfold decM getM
  rw [h]
  simp only
  rw [h2]
  simp only
  rw [if_pos h3]
theorem decM_e4 {l r r2 : List UInt8} {ns : List Int} {v x : Nat} (h : getAll 5 (l.drop 4) = .ok (ns, r)) (h2 : getV 0 r = .ok (v, r2)) (h3 : ¬ 512 < v) (h4 : getPts v r2 = .error x) : decM l = none := by
  unfold decM getM
  rw [h]
  simp only
  rw [h2]
  simp only
  rw [if_neg h3, h4]
theorem decM_go {l r r2 r3 : List UInt8} {ns : List Int} {ps : List Pt} {v : Nat} (h : getAll 5 (l.drop 4) = .ok (ns, r)) (h2 : getV 0 r = .ok (v, r2)) (h3 : ¬ 512 < v) (h4 : getPts v r2 = .ok (ps, r3)) : decM l = if checkP (mkMf ns ps) = 0 ∧ encM (mkMf ns ps) = l then some (mkMf ns ps) else none := by
  unfold decM getM
  rw [h]
  simp only
  rw [h2]
  simp only
  rw [if_neg h3, h4]
set_option maxRecDepth 100000 in
set_option maxHeartbeats 4000000 in
theorem rdecode_any (A : Option Addr) (n c : Nat) (l : List UInt8) (w : World) (h : In8 w A n c l) (hle : n ≤ 1000000000) :
    Calls Tryz.prog 44 #[.slice A n c] w fun e w' => DecP w (decM l) e w' := by
  have hl := h.len
  obtain ⟨W, hW⟩ : ∃ W, W = w.alloc (.cells #[.slice none 0 0, .int .i64 0, .int .i64 0, .int .i64 0, .int .i64 0, .int .i64 0] 24) := ⟨_, rfl⟩
  have hz0 : Row W w.heap.size 24 #[.slice none 0 0, .int .i64 0, .int .i64 0, .int .i64 0, .int .i64 0, .int .i64 0] := by rw [hW]; exact Row.new w _ _
  have hE0 : Ext w W := by rw [hW]; exact (Ext.refl w).alloc _
  by_cases h8 : n < 4
  · have hd := hide (decM_short (b := l) (by omega))
    rw [hW] at hE0
    clear hl h hz0 hW
    replace hE0 := hide hE0
    go_enter Tryz.func44, Tryz.ntmps44
    go_wp2_with fail
    exact bodyPost_ret (v := .tuple #[nilMf.val none 0, .int .i64 160]) (by simp [results, Tryz.results44, go_sem, nilMf, Mf.val]) rfl (by rw [hd.out]; exact ⟨hE0.out, rfl⟩)
  · obtain ⟨A1, c1, hsub, hin⟩ := h.from_ (fr := 4) (by omega) (z := 4) rfl
    have hga := rgetAll_any A1 (n - 4) c1 5 (l.drop 4) w W hin hE0 (by omega) (by omega)
    replace hW := hide hW
    replace h := hide h
    have hl' := hide hl
    cases hr : getAll 5 (l.drop 4) with
    | error x =>
      have hdn := hide (decM_e1 hr)
      rw [hr] at hga
      replace hga := hide hga
      clear hr hl hin
      go_enter Tryz.func44, Tryz.ntmps44
      go_wp2_with fail
      rw [← hW.out]
      refine hga.out.mono ?_
      rintro e w1 ⟨hE1, rfl, hx⟩
      have hx0 : ((x : Int) != 0) = true := by simp; omega
      have hz1 := hide (hz0.ext hE1)
      have hEw1 := hide (hE0.trans hE1)
      have t0 : w1.cell? ⟨w.heap.size, 0, none⟩ = some (.slice none 0 0) := hz1.out.cell 0 rfl
      have t1 : w1.cell? ⟨w.heap.size, 1, none⟩ = some (.int .i64 0) := hz1.out.cell 1 rfl
      have t2 : w1.cell? ⟨w.heap.size, 2, none⟩ = some (.int .i64 0) := hz1.out.cell 2 rfl
      have t3 : w1.cell? ⟨w.heap.size, 3, none⟩ = some (.int .i64 0) := hz1.out.cell 3 rfl
      have t4 : w1.cell? ⟨w.heap.size, 4, none⟩ = some (.int .i64 0) := hz1.out.cell 4 rfl
      have t5 : w1.cell? ⟨w.heap.size, 5, none⟩ = some (.int .i64 0) := hz1.out.cell 5 rfl
      have tf := fun i => hz1.out.free i
      have tl := hz1.out.lt
      clear hx
      go_wp2_with fail
      obtain ⟨w6, hw6⟩ : ∃ w6, w6 = setM w1 w.heap.size nilMf none 0 := ⟨_, rfl⟩
      have hk6 := setM_row hz1.out nilMf none 0
      rw [← hw6] at hk6
      have hE6 := setM_ext hEw1.out (Nat.le_refl _) nilMf none 0
      rw [← hw6] at hE6
      simp only [setM, nilMf, List.length_nil] at hw6
      rw [← hw6]
      have k0 : w6.cell? ⟨w.heap.size, 0, none⟩ = some (.slice none 0 0) := hk6.cell 0 rfl
      have k1 : w6.cell? ⟨w.heap.size, 1, none⟩ = some (.int .i64 0) := hk6.cell 1 rfl
      have k2 : w6.cell? ⟨w.heap.size, 2, none⟩ = some (.int .i64 0) := hk6.cell 2 rfl
      have k3 : w6.cell? ⟨w.heap.size, 3, none⟩ = some (.int .i64 0) := hk6.cell 3 rfl
      have k4 : w6.cell? ⟨w.heap.size, 4, none⟩ = some (.int .i64 0) := hk6.cell 4 rfl
      have k5 : w6.cell? ⟨w.heap.size, 5, none⟩ = some (.int .i64 0) := hk6.cell 5 rfl
      clear hw6 hk6
      exact bodyPost_ret (v := .tuple #[nilMf.val none 0, .int .i64 160]) (by simp [results, Tryz.results44, go_sem, nilMf, Mf.val, k0, k1, k2, k3, k4, k5]) rfl (by rw [hdn.out]; exact ⟨hE6, rfl⟩)
    | ok p =>
      obtain ⟨ns, r⟩ := p
      obtain ⟨hn5, hns, q, hq⟩ := getAll_len 5 (l.drop 4) ns r hr
      have hrl : r.length ≤ 1000000000 := by
        have := congrArg List.length hq
        rw [List.length_drop, List.length_append] at this
        omega
      obtain ⟨a0, a1, a2, a3, a4, rfl⟩ := five_of hn5
      rw [hr] at hga
      replace hga := hide hga
      replace hns := hide hns
      clear hl hin hq hn5
      cases hv : getV 0 r with
      | error x =>
        have hdn := hide (decM_e2 hr hv)
        have hx := getV_err r 0 x hv
        have hx0 : ((x : Int) != 0) = true := by simp; omega
        have hgv := hide (fun A c w1 (hi : In8 w A r.length c r) (hE : Ext w w1) => by have := rget_any A r.length c r w w1 hi hE hrl; rw [hv] at this; exact this)
        clear hr hx hv
        go_enter Tryz.func44, Tryz.ntmps44
        go_wp2_with fail
        rw [← hW.out]
        refine hga.out.mono ?_
        rintro e w1 ⟨hE1, A3, c4, B, cb, rfl, hbu, hin3⟩
        have hz1 := hz0.ext hE1
        have hEw1 := hE0.trans hE1
        go_wp2_with fail
        refine (hgv.out _ _ _ hin3 hEw1).mono ?_
        rintro e w2 ⟨hE2, rfl⟩
        have hz2 := hide (hz1.ext hE2)
        have hEw2 := hide (hEw1.trans hE2)
        have t0 : w2.cell? ⟨w.heap.size, 0, none⟩ = some (.slice none 0 0) := hz2.out.cell 0 rfl
        have t1 : w2.cell? ⟨w.heap.size, 1, none⟩ = some (.int .i64 0) := hz2.out.cell 1 rfl
        have t2 : w2.cell? ⟨w.heap.size, 2, none⟩ = some (.int .i64 0) := hz2.out.cell 2 rfl
        have t3 : w2.cell? ⟨w.heap.size, 3, none⟩ = some (.int .i64 0) := hz2.out.cell 3 rfl
        have t4 : w2.cell? ⟨w.heap.size, 4, none⟩ = some (.int .i64 0) := hz2.out.cell 4 rfl
        have t5 : w2.cell? ⟨w.heap.size, 5, none⟩ = some (.int .i64 0) := hz2.out.cell 5 rfl
        have tf := fun i => hz2.out.free i
        have tl := hz2.out.lt
        clear hz1 hEw1
        go_wp2_with fail
        obtain ⟨w6, hw6⟩ : ∃ w6, w6 = setM w2 w.heap.size nilMf none 0 := ⟨_, rfl⟩
        have hk6 := setM_row hz2.out nilMf none 0
        rw [← hw6] at hk6
        have hE6 := setM_ext hEw2.out (Nat.le_refl _) nilMf none 0
        rw [← hw6] at hE6
        simp only [setM, nilMf, List.length_nil] at hw6
        rw [← hw6]
        have k0 : w6.cell? ⟨w.heap.size, 0, none⟩ = some (.slice none 0 0) := hk6.cell 0 rfl
        have k1 : w6.cell? ⟨w.heap.size, 1, none⟩ = some (.int .i64 0) := hk6.cell 1 rfl
        have k2 : w6.cell? ⟨w.heap.size, 2, none⟩ = some (.int .i64 0) := hk6.cell 2 rfl
        have k3 : w6.cell? ⟨w.heap.size, 3, none⟩ = some (.int .i64 0) := hk6.cell 3 rfl
        have k4 : w6.cell? ⟨w.heap.size, 4, none⟩ = some (.int .i64 0) := hk6.cell 4 rfl
        have k5 : w6.cell? ⟨w.heap.size, 5, none⟩ = some (.int .i64 0) := hk6.cell 5 rfl
        clear hw6 hk6
        exact bodyPost_ret (v := .tuple #[nilMf.val none 0, .int .i64 160]) (by simp [results, Tryz.results44, go_sem, nilMf, Mf.val, k0, k1, k2, k3, k4, k5]) rfl (by rw [hdn.out]; exact ⟨hE6, rfl⟩)
      | ok p =>
        obtain ⟨v, r2⟩ := p
        have hv64 := getV_lt64 hv
        have hr2 : r2.length ≤ 1000000000 := by
          obtain ⟨_, _, q, hq, _⟩ := getV_lt r 0 v r2 hv
          rw [hq, List.length_append] at hrl
          omega
        have hgv := hide (fun A c w1 (hi : In8 w A r.length c r) (hE : Ext w w1) => by have := rget_any A r.length c r w w1 hi hE hrl; rw [hv] at this; exact this)
        by_cases h5 : 512 < v
        · have hdn := hide (decM_e3 hr hv h5)
          clear hr hv
          go_enter Tryz.func44, Tryz.ntmps44
          go_wp2_with fail
          rw [← hW.out]
          refine hga.out.mono ?_
          rintro e w1 ⟨hE1, A3, c4, B, cb, rfl, hbu, hin3⟩
          have hz1 := hz0.ext hE1
          have hEw1 := hE0.trans hE1
          go_wp2_with fail
          refine (hgv.out _ _ _ hin3 hEw1).mono ?_
          rintro e w2 ⟨hE2, A4, c5, rfl, hin4⟩
          have hz2 := hide (hz1.ext hE2)
          have hEw2 := hide (hEw1.trans hE2)
          have t0 : w2.cell? ⟨w.heap.size, 0, none⟩ = some (.slice none 0 0) := hz2.out.cell 0 rfl
          have t1 : w2.cell? ⟨w.heap.size, 1, none⟩ = some (.int .i64 0) := hz2.out.cell 1 rfl
          have t2 : w2.cell? ⟨w.heap.size, 2, none⟩ = some (.int .i64 0) := hz2.out.cell 2 rfl
          have t3 : w2.cell? ⟨w.heap.size, 3, none⟩ = some (.int .i64 0) := hz2.out.cell 3 rfl
          have t4 : w2.cell? ⟨w.heap.size, 4, none⟩ = some (.int .i64 0) := hz2.out.cell 4 rfl
          have t5 : w2.cell? ⟨w.heap.size, 5, none⟩ = some (.int .i64 0) := hz2.out.cell 5 rfl
          have tf := fun i => hz2.out.free i
          have tl := hz2.out.lt
          clear hz1 hEw1
          go_wp2_with fail
          obtain ⟨w6, hw6⟩ : ∃ w6, w6 = setM w2 w.heap.size nilMf none 0 := ⟨_, rfl⟩
          have hk6 := setM_row hz2.out nilMf none 0
          rw [← hw6] at hk6
          have hE6 := setM_ext hEw2.out (Nat.le_refl _) nilMf none 0
          rw [← hw6] at hE6
          simp only [setM, nilMf, List.length_nil] at hw6
          rw [← hw6]
          have k0 : w6.cell? ⟨w.heap.size, 0, none⟩ = some (.slice none 0 0) := hk6.cell 0 rfl
          have k1 : w6.cell? ⟨w.heap.size, 1, none⟩ = some (.int .i64 0) := hk6.cell 1 rfl
          have k2 : w6.cell? ⟨w.heap.size, 2, none⟩ = some (.int .i64 0) := hk6.cell 2 rfl
          have k3 : w6.cell? ⟨w.heap.size, 3, none⟩ = some (.int .i64 0) := hk6.cell 3 rfl
          have k4 : w6.cell? ⟨w.heap.size, 4, none⟩ = some (.int .i64 0) := hk6.cell 4 rfl
          have k5 : w6.cell? ⟨w.heap.size, 5, none⟩ = some (.int .i64 0) := hk6.cell 5 rfl
          clear hw6 hk6
          exact bodyPost_ret (v := .tuple #[nilMf.val none 0, .int .i64 160]) (by simp [results, Tryz.results44, go_sem, nilMf, Mf.val, k0, k1, k2, k3, k4, k5]) rfl (by rw [hdn.out]; exact ⟨hE6, rfl⟩)
        · cases hp : getPts v r2 with
          | error x =>
            have hdn := hide (decM_e4 hr hv h5 hp)
            have hpa := hide (fun A c w1 (hi : In8 w A r2.length c r2) (hE : Ext w w1) => by have := rparts_any A r2.length c v r2 w w1 hi hE hr2 (by omega); rw [hp] at this; exact this)
            have hv5 : v ≤ 512 := by omega
            clear hr hv hp
            go_enter Tryz.func44, Tryz.ntmps44
            go_wp2_with fail
            rw [← hW.out]
            refine hga.out.mono ?_
            rintro e w1 ⟨hE1, A3, c4, B, cb, rfl, hbu, hin3⟩
            have hz1 := hz0.ext hE1
            have hEw1 := hE0.trans hE1
            go_wp2_with fail
            refine (hgv.out _ _ _ hin3 hEw1).mono ?_
            rintro e w2 ⟨hE2, A4, c5, rfl, hin4⟩
            have hz2 := hz1.ext hE2
            have hEw2 := hEw1.trans hE2
            go_wp2_with fail
            refine (hpa.out _ _ _ hin4 hEw2).mono ?_
            rintro e w3 ⟨hE3, rfl⟩
            have hz3 := hide (hz2.ext hE3)
            have hEw3 := hide (hEw2.trans hE3)
            have t0 : w3.cell? ⟨w.heap.size, 0, none⟩ = some (.slice none 0 0) := hz3.out.cell 0 rfl
            have t1 : w3.cell? ⟨w.heap.size, 1, none⟩ = some (.int .i64 0) := hz3.out.cell 1 rfl
            have t2 : w3.cell? ⟨w.heap.size, 2, none⟩ = some (.int .i64 0) := hz3.out.cell 2 rfl
            have t3 : w3.cell? ⟨w.heap.size, 3, none⟩ = some (.int .i64 0) := hz3.out.cell 3 rfl
            have t4 : w3.cell? ⟨w.heap.size, 4, none⟩ = some (.int .i64 0) := hz3.out.cell 4 rfl
            have t5 : w3.cell? ⟨w.heap.size, 5, none⟩ = some (.int .i64 0) := hz3.out.cell 5 rfl
            have tf := fun i => hz3.out.free i
            have tl := hz3.out.lt
            clear hz1 hEw1 hz2 hEw2
            go_wp2_with fail
            obtain ⟨w6, hw6⟩ : ∃ w6, w6 = setM w3 w.heap.size nilMf none 0 := ⟨_, rfl⟩
            have hk6 := setM_row hz3.out nilMf none 0
            rw [← hw6] at hk6
            have hE6 := setM_ext hEw3.out (Nat.le_refl _) nilMf none 0
            rw [← hw6] at hE6
            simp only [setM, nilMf, List.length_nil] at hw6
            rw [← hw6]
            have k0 : w6.cell? ⟨w.heap.size, 0, none⟩ = some (.slice none 0 0) := hk6.cell 0 rfl
            have k1 : w6.cell? ⟨w.heap.size, 1, none⟩ = some (.int .i64 0) := hk6.cell 1 rfl
            have k2 : w6.cell? ⟨w.heap.size, 2, none⟩ = some (.int .i64 0) := hk6.cell 2 rfl
            have k3 : w6.cell? ⟨w.heap.size, 3, none⟩ = some (.int .i64 0) := hk6.cell 3 rfl
            have k4 : w6.cell? ⟨w.heap.size, 4, none⟩ = some (.int .i64 0) := hk6.cell 4 rfl
            have k5 : w6.cell? ⟨w.heap.size, 5, none⟩ = some (.int .i64 0) := hk6.cell 5 rfl
            clear hw6 hk6
            exact bodyPost_ret (v := .tuple #[nilMf.val none 0, .int .i64 160]) (by simp [results, Tryz.results44, go_sem, nilMf, Mf.val, k0, k1, k2, k3, k4, k5]) rfl (by rw [hdn.out]; exact ⟨hE6, rfl⟩)
          | ok p =>
            obtain ⟨ps, r3⟩ := p
            have hdg := hide (decM_go hr hv h5 hp)
            obtain ⟨hpl, hpo⟩ := getPts_in v r2 ps r3 hp
            have hpa := hide (fun A c w1 (hi : In8 w A r2.length c r2) (hE : Ext w w1) => by have := rparts_any A r2.length c v r2 w w1 hi hE hr2 (by omega); rw [hp] at this; exact this)
            have hv5 : v ≤ 512 := by omega
            subst hpl
            replace hpo := hide hpo
            clear hr hv hp
            go_enter Tryz.func44, Tryz.ntmps44
            go_wp2_with fail
            rw [← hW.out]
            refine hga.out.mono ?_
            rintro e w1 ⟨hE1, A3, c4, B, cb, rfl, hbu, hin3⟩
            have hz1 := hz0.ext hE1
            have hEw1 := hE0.trans hE1
            go_wp2_with fail
            refine (hgv.out _ _ _ hin3 hEw1).mono ?_
            rintro e w2 ⟨hE2, A4, c5, rfl, hin4⟩
            have hz2 := hz1.ext hE2
            have hEw2 := hEw1.trans hE2
            go_wp2_with fail
            refine (hpa.out _ _ _ hin4 hEw2).mono ?_
            rintro e w3 ⟨hE3, P, cp, rfl, hown⟩
            have hz20 := hz2.lt
            have hz3 := hide (hz2.ext hE3)
            have hEw3 := hide (hEw2.trans hE3)
            obtain ⟨g, o, rfl, hcc⟩ := hbu.cells.at_ (by simp)
            have hE13 := hE2.trans hE3
            have z0 : w3.cell? ⟨g, o, none⟩ = some (.int .i64 a0) := hE13.cell (hcc 0 _ rfl)
            have z1 : w3.cell? ⟨g, o + 1, none⟩ = some (.int .i64 a1) := hE13.cell (hcc 1 _ rfl)
            have z2 : w3.cell? ⟨g, o + 2, none⟩ = some (.int .i64 a2) := hE13.cell (hcc 2 _ rfl)
            have z3 : w3.cell? ⟨g, o + 3, none⟩ = some (.int .i64 a3) := hE13.cell (hcc 3 _ rfl)
            have z4 : w3.cell? ⟨g, o + 4, none⟩ = some (.int .i64 a4) := hE13.cell (hcc 4 _ rfl)
            clear hz1 hEw1 hz2 hEw2 hcc hbu hE13
            go_wp2_with fail
            refine wp_region_text follows (by kernel_rfl) (by kernel_rfl) (fun K hK => ?_)
            go_wp2_with fail
            refine ⟨by kernel_rfl, ?_⟩
            go_wp2_with fail
            obtain ⟨w4, hw4⟩ : ∃ w4, w4 = (w3.alloc (.cells #[.slice P ps.length cp, .int .i64 a0, .int .i64 a1, .int .i64 a2, .int .i64 a3, .int .i64 a4] 24)).drew := ⟨_, rfl⟩
            have hE34 : Ext w3 w4 := by rw [hw4]; exact ((Ext.refl w3).alloc _).drew
            have hmr : Row w4 w3.heap.size 24 #[.slice P ps.length cp, .int .i64 a0, .int .i64 a1, .int .i64 a2, .int .i64 a3, .int .i64 a4] := by rw [hw4]; exact (Row.new w3 _ _).drew
            rw [← hw4]
            have hown4 := hE34.owns hown
            have hOk : (mkMf [a0, a1, a2, a3, a4] ps).Ok w4 w4.heap.size P cp := by
              refine ⟨owns_parts hown4 hpo.out (by show ps.length ≤ _; omega), ?_, ?_, ?_, ?_, ?_⟩
              · exact hns.out a0 (by simp)
              · exact hns.out a1 (by simp)
              · exact hns.out a2 (by simp)
              · exact hns.out a3 (by simp)
              · exact hns.out a4 (by simp)
            have hval : (mkMf [a0, a1, a2, a3, a4] ps).val P cp = .agg #[.slice P ps.length cp, .int .i64 a0, .int .i64 a1, .int .i64 a2, .int .i64 a3, .int .i64 a4] := rfl
            have hcs : (mkMf [a0, a1, a2, a3, a4] ps).cells P cp = #[.slice P ps.length cp, .int .i64 a0, .int .i64 a1, .int .i64 a2, .int .i64 a3, .int .i64 a4] := rfl
            have hfl : (mkMf [a0, a1, a2, a3, a4] ps).ps = ps ∧ (mkMf [a0, a1, a2, a3, a4] ps).floor = a0 ∧ (mkMf [a0, a1, a2, a3, a4] ps).done = a1 ∧ (mkMf [a0, a1, a2, a3, a4] ps).log = a2 ∧ (mkMf [a0, a1, a2, a3, a4] ps).next = a3 ∧ (mkMf [a0, a1, a2, a3, a4] ps).now = a4 := ⟨rfl, rfl, rfl, rfl, rfl, rfl⟩
            have hen := rencode_any w4.heap.size _ P cp w4 hOk
            rw [hval] at hen
            obtain ⟨m, hm⟩ : ∃ m, m = mkMf [a0, a1, a2, a3, a4] ps := ⟨_, rfl⟩
            rw [← hm] at hen hdg hOk hval hcs hfl
            have hnw := hide (show (Value.slice P ps.length cp).ownBlock ≠ some w.heap.size from fun e => by
              obtain ⟨_, _, hb⟩ := owns_row hown e
              have := hz3.out.lt
              have hb2 := hz20
              omega)
            have hown' := hide hown
            replace hen := hide hen
            replace hOk := hide hOk
            replace hval := hide hval
            replace hcs := hide hcs
            replace hfl := hide hfl
            replace hmr := hide hmr
            replace hE34 := hide hE34
            clear hw4 hm hown hown4 z0 z1 z2 z3 z4
            refine hen.out.mono ?_
            rintro e w5 ⟨hE5, hyes, hno⟩
            have hE35 := hide (hE34.out.trans hE5)
            have hz5 := hide (hz3.out.ext hE35.out)
            have hEw5 := hide (hEw3.out.trans hE35.out)
            have hm5 := hmr.out.ext hE5
            have v0 : w5.cell? ⟨w3.heap.size, 0, none⟩ = some (.slice P ps.length cp) := hm5.cell 0 rfl
            have v1 : w5.cell? ⟨w3.heap.size, 1, none⟩ = some (.int .i64 a0) := hm5.cell 1 rfl
            have v2 : w5.cell? ⟨w3.heap.size, 2, none⟩ = some (.int .i64 a1) := hm5.cell 2 rfl
            have v3 : w5.cell? ⟨w3.heap.size, 3, none⟩ = some (.int .i64 a2) := hm5.cell 3 rfl
            have v4 : w5.cell? ⟨w3.heap.size, 4, none⟩ = some (.int .i64 a3) := hm5.cell 4 rfl
            have v5 : w5.cell? ⟨w3.heap.size, 5, none⟩ = some (.int .i64 a4) := hm5.cell 5 rfl
            have t0 : w5.cell? ⟨w.heap.size, 0, none⟩ = some (.slice none 0 0) := hz5.out.cell 0 rfl
            have t1 : w5.cell? ⟨w.heap.size, 1, none⟩ = some (.int .i64 0) := hz5.out.cell 1 rfl
            have t2 : w5.cell? ⟨w.heap.size, 2, none⟩ = some (.int .i64 0) := hz5.out.cell 2 rfl
            have t3 : w5.cell? ⟨w.heap.size, 3, none⟩ = some (.int .i64 0) := hz5.out.cell 3 rfl
            have t4 : w5.cell? ⟨w.heap.size, 4, none⟩ = some (.int .i64 0) := hz5.out.cell 4 rfl
            have t5 : w5.cell? ⟨w.heap.size, 5, none⟩ = some (.int .i64 0) := hz5.out.cell 5 rfl
            have tf := fun i => hz5.out.free i
            have tl := hz5.out.lt
            replace hyes := hide hyes
            replace hno := hide hno
            clear hm5
            by_cases hc : checkP m = 0
            · obtain ⟨A5, c6, rfl, hb5⟩ := hyes.out hc
              have hs1 := run_str hb5.cells (encM m).length c6 rfl
              have hs2 := run_str ((h.out.ext hEw5.out).bytes) n c hl'.out
              by_cases he : encM m = l
              · have hdn : decM l = some m := by rw [hdg.out]; simp only [hc, he, and_self, if_true]
                replace hdn := hide hdn
                have hbq : (encM m == l) = true := by rw [he]; simp
                obtain ⟨k, hk⟩ : ∃ k, k = (encM m).length := ⟨_, rfl⟩
                rw [← hk] at hs1 ⊢
                clear hk hc he hdg
                go_wp2_with fail
                obtain ⟨w6, hw6⟩ : ∃ w6, w6 = setM w5 w.heap.size m P cp := ⟨_, rfl⟩
                have hk6 := setM_row hz5.out m P cp
                rw [← hw6, hcs.out] at hk6
                have hE6 := setM_ext hEw5.out (Nat.le_refl _) m P cp
                rw [← hw6] at hE6
                have ho6 := setM_owns (hE35.out.owns hown'.out) hnw.out m P cp
                rw [← hw6] at ho6
                unfold setM at hw6
                rw [hfl.out.1, hfl.out.2.1, hfl.out.2.2.1, hfl.out.2.2.2.1, hfl.out.2.2.2.2.1, hfl.out.2.2.2.2.2] at hw6
                rw [← hw6]
                have k0 : w6.cell? ⟨w.heap.size, 0, none⟩ = some (.slice P ps.length cp) := hk6.cell 0 rfl
                have k1 : w6.cell? ⟨w.heap.size, 1, none⟩ = some (.int .i64 a0) := hk6.cell 1 rfl
                have k2 : w6.cell? ⟨w.heap.size, 2, none⟩ = some (.int .i64 a1) := hk6.cell 2 rfl
                have k3 : w6.cell? ⟨w.heap.size, 3, none⟩ = some (.int .i64 a2) := hk6.cell 3 rfl
                have k4 : w6.cell? ⟨w.heap.size, 4, none⟩ = some (.int .i64 a3) := hk6.cell 4 rfl
                have k5 : w6.cell? ⟨w.heap.size, 5, none⟩ = some (.int .i64 a4) := hk6.cell 5 rfl
                have hPS := owns_parts ho6 hpo.out (by omega)
                have hok6 : m.Ok w6 w6.heap.size P cp := ⟨by rw [hfl.out.1]; exact hPS, hOk.out.floor, hOk.out.done, hOk.out.log, hOk.out.next, hOk.out.now⟩
                clear hw6 hk6 ho6 hPS
                exact bodyPost_ret (v := .tuple #[m.val P cp, .int .i64 0]) (by rw [hval.out]; simp [results, Tryz.results44, go_sem, k0, k1, k2, k3, k4, k5]) rfl (by rw [hdn.out]; exact ⟨hE6, P, cp, rfl, hok6⟩)
              · have hdn : decM l = none := by rw [hdg.out]; simp only [hc, he, and_false, if_false]
                replace hdn := hide hdn
                have hbq : (encM m == l) = false := by simpa using he
                obtain ⟨k, hk⟩ : ∃ k, k = (encM m).length := ⟨_, rfl⟩
                rw [← hk] at hs1 ⊢
                clear hk hc he hdg
                go_wp2_with fail
                obtain ⟨w6, hw6⟩ : ∃ w6, w6 = setM w5 w.heap.size nilMf none 0 := ⟨_, rfl⟩
                have hk6 := setM_row hz5.out nilMf none 0
                rw [← hw6] at hk6
                have hE6 := setM_ext hEw5.out (Nat.le_refl _) nilMf none 0
                rw [← hw6] at hE6
                simp only [setM, nilMf, List.length_nil] at hw6
                rw [← hw6]
                have k0 : w6.cell? ⟨w.heap.size, 0, none⟩ = some (.slice none 0 0) := hk6.cell 0 rfl
                have k1 : w6.cell? ⟨w.heap.size, 1, none⟩ = some (.int .i64 0) := hk6.cell 1 rfl
                have k2 : w6.cell? ⟨w.heap.size, 2, none⟩ = some (.int .i64 0) := hk6.cell 2 rfl
                have k3 : w6.cell? ⟨w.heap.size, 3, none⟩ = some (.int .i64 0) := hk6.cell 3 rfl
                have k4 : w6.cell? ⟨w.heap.size, 4, none⟩ = some (.int .i64 0) := hk6.cell 4 rfl
                have k5 : w6.cell? ⟨w.heap.size, 5, none⟩ = some (.int .i64 0) := hk6.cell 5 rfl
                clear hw6 hk6
                exact bodyPost_ret (v := .tuple #[nilMf.val none 0, .int .i64 160]) (by simp [results, Tryz.results44, go_sem, nilMf, Mf.val, k0, k1, k2, k3, k4, k5]) rfl (by rw [hdn.out]; exact ⟨hE6, rfl⟩)
            · have hdn : decM l = none := by rw [hdg.out]; simp only [hc, false_and, if_false]
              have he := hno.out hc
              have hcn : ((checkP m : Int) != 0) = true := by simp; omega
              obtain ⟨k, hk⟩ : ∃ k, k = checkP m := ⟨_, rfl⟩
              rw [← hk] at he hcn
              subst he
              replace hdn := hide hdn
              clear hc hdg hk
              go_wp2_with fail
              obtain ⟨w6, hw6⟩ : ∃ w6, w6 = setM w5 w.heap.size nilMf none 0 := ⟨_, rfl⟩
              have hk6 := setM_row hz5.out nilMf none 0
              rw [← hw6] at hk6
              have hE6 := setM_ext hEw5.out (Nat.le_refl _) nilMf none 0
              rw [← hw6] at hE6
              simp only [setM, nilMf, List.length_nil] at hw6
              rw [← hw6]
              have k0 : w6.cell? ⟨w.heap.size, 0, none⟩ = some (.slice none 0 0) := hk6.cell 0 rfl
              have k1 : w6.cell? ⟨w.heap.size, 1, none⟩ = some (.int .i64 0) := hk6.cell 1 rfl
              have k2 : w6.cell? ⟨w.heap.size, 2, none⟩ = some (.int .i64 0) := hk6.cell 2 rfl
              have k3 : w6.cell? ⟨w.heap.size, 3, none⟩ = some (.int .i64 0) := hk6.cell 3 rfl
              have k4 : w6.cell? ⟨w.heap.size, 4, none⟩ = some (.int .i64 0) := hk6.cell 4 rfl
              have k5 : w6.cell? ⟨w.heap.size, 5, none⟩ = some (.int .i64 0) := hk6.cell 5 rfl
              clear hw6 hk6
              exact bodyPost_ret (v := .tuple #[nilMf.val none 0, .int .i64 160]) (by simp [results, Tryz.results44, go_sem, nilMf, Mf.val, k0, k1, k2, k3, k4, k5]) rfl (by rw [hdn.out]; exact ⟨hE6, rfl⟩)
end Go.Proofs.YtaoolpnnomhnoaaGreatDoor

/- loggialaw16: few. -/
namespace Go.Proofs.YtaoolpnnomhnoaaGreatDoor
open Go.RowKit

set_option maxRecDepth 100000 in
theorem run_head7 {t e n c k : Nat} {A : Option Addr} (ht : Tryz.prog.underlying t = some (.slice e)) (hs : ∀ W : World, (sizeOf e).run Tryz.prog W = .ok 7 W) (h : k ≤ c) (hA : ∀ a, A = some a → a.spot = none) (W : World) :
    (Instr.sliceAt t (.slice A n c) none (some (.int .i64 k)) none).run Tryz.prog W = .ok (.slice A k c) W := by
  have he : Tryz.prog.elem t = e := by unfold Program.elem; rw [ht]
  rw [run_sliceAt_slice W t _ _ _ _ (by rw [ht, he]), run_slice_h W t A n c (by rw [ht, he]) .i64 k (by omega) (by omega), he, hs]
  simp only [Result.andThen_ok]
  congr 1
  unfold sliced
  have : (if c = 0 then A else A.map fun x => x.add (0 * 7)) = A := by
    cases A with
    | none => simp
    | some a =>
      obtain ⟨b, o, sp⟩ := a
      obtain rfl : sp = none := hA _ rfl
      simp [Addr.add_lit]
  rw [this]
  simp

set_option maxRecDepth 100000 in
set_option maxHeartbeats 2000000 in
theorem few_any (base : Nat) (m : Mf) (A : Option Addr) (c : Nat) (w : World) (h : m.Ok w base A c) : Calls Tryz.prog 5 #[m.val A c] w fun e w' => e = .returned (m.few.val A c) ∧ Ext w w' := by
  have hp := h.parts
  have hmost := hp.most
  have hcap := hp.cap
  have hv : m.few.val A c = .agg #[.slice A (m.ps.take 40).length c, .int .i64 m.floor, .int .i64 m.done, .int .i64 m.log, .int .i64 m.next, .int .i64 m.now] := rfl
  rw [hv]
  unfold Mf.val
  by_cases h4 : m.ps.length ≤ 40
  · rw [List.take_of_length_le h4]
    clear hv hp
    go_enter Tryz.func5, Tryz.ntmps5
    go_wp2_with fail
    exact bodyPost_ret (by simp [results, Tryz.results5, go_sem]) rfl ⟨rfl, ((Ext.refl w).alloc _).alloc _⟩
  · have h40 : (m.ps.take 40).length = 40 := by rw [List.length_take]; omega
    rw [h40]
    have hr := run_head7 (t := 22) (e := 71) (k := 40) (n := m.ps.length) (c := c) (A := A) Tryz.underlying22 (fun W => by kernel_rfl) (by omega) fun x hx => (hp.away (fun e => h4 (by rw [e]; simp)) x hx).2
    clear hv hp h40
    go_enter Tryz.func5, Tryz.ntmps5
    go_wp2_with fail
    exact bodyPost_ret (by simp [results, Tryz.results5, go_sem]) rfl ⟨rfl, ((Ext.refl w).alloc _).alloc _⟩
end Go.Proofs.YtaoolpnnomhnoaaGreatDoor

/- api.Part: are two alike? -/
namespace Go.Proofs.YtaoolpnnomhnoaaGreatDoor
open Go.RowKit

set_option maxRecDepth 100000 in
set_option maxHeartbeats 2000000 in
theorem part_neq (p q : Pt) (W : World) : (binOp .neq 71 p.val q.val).run Tryz.prog W = .ok (.bool (!(p.id == q.id && p.st == q.st && p.lo == q.lo && p.hi == q.hi && p.fi == q.fi && p.la == q.la && p.n == q.n))) W := by
  unfold Pt.val
  rw [run_neq_struct, run_equalIn_agg _ _ _ _ _ (by kernel_rfl) (by kernel_rfl)]
  simp only [Program.fieldsOf, Tryz.underlying71]
  have e1 : ∀ (a b : Int) (W : World), (Op.equalIn 9999 3 (.int .i64 a) (.int .i64 b)).run Tryz.prog W = .ok (a == b) W := fun a b W => run_equalIn_int W 9998 3 .i64 .i64 a b Tryz.underlying3
  have e2 : ∀ (a b : Int) (W : World), (Op.equalIn 9999 69 (.int .i64 a) (.int .i64 b)).run Tryz.prog W = .ok (a == b) W := fun a b W => run_equalIn_int W 9998 69 .i64 .i64 a b Tryz.underlying69
  simp [Op.eqFields, part, e1, e2, go_sem]
  by_cases h1 : p.id = q.id <;> by_cases h2 : p.st = q.st <;> by_cases h3 : p.lo = q.lo <;> by_cases h4 : p.hi = q.hi <;> by_cases h5 : p.fi = q.fi <;> by_cases h6 : p.la = q.la <;> by_cases h7 : p.n = q.n
  all_goals simp [h1, h2, h3, h4, h5, h6, h7]
theorem part_ne (p q : Pt) (W : World) : (binOp .neq 71 p.val q.val).run Tryz.prog W = .ok (.bool (!decide (p = q))) W := by
  have h : decide (p = q) = (p.id == q.id && p.st == q.st && p.lo == q.lo && p.hi == q.hi && p.fi == q.fi && p.la == q.la && p.n == q.n) := by
    rw [Bool.eq_iff_iff]
    cases p
    cases q
    simp [and_assoc]
  rw [h]
  exact part_neq p q W
def sameP (a b : Mf) : Bool := decide (a.floor = b.floor) && decide (a.done = b.done) && decide (a.log = b.log) && decide (a.next = b.next) && decide (a.now = b.now) && decide (a.ps = b.ps)
end Go.Proofs.YtaoolpnnomhnoaaGreatDoor

/- loggiaref16: Same. -/
namespace Go.Proofs.YtaoolpnnomhnoaaGreatDoor
open Go.RowKit

theorem sameP_len {a b : Mf} (h : a.ps.length ≠ b.ps.length) : sameP a b = false := by
  unfold sameP
  rw [decide_eq_false fun e : a.ps = b.ps => h (by rw [e])]
  simp
set_option maxRecDepth 100000 in
set_option maxHeartbeats 4000000 in
theorem rsame_any (base base2 : Nat) (a b : Mf) (A B : Option Addr) (c c2 : Nat) (w : World) (ha : a.Ok w base A c) (hb : b.Ok w base2 B c2) :
    Calls Tryz.prog 13 #[a.val A c, b.val B c2] w fun e w' => e = .returned (.bool (sameP a b)) ∧ Ext w w' := by
  have ha' := ha.parts
  have hb' := hb.parts
  have hma := ha'.most
  have hmb := hb'.most
  have hlen : ((a.ps.length : Int) != (b.ps.length : Int)) = true → sameP a b = false := fun h => sameP_len (by simp at h; omega)
  replace hlen := hide hlen
  unfold Mf.val
  go_enter Tryz.func13, Tryz.ntmps13
  go_wp2_with fail
  all_goals first
    | (go_ret; exact ⟨ret_bool (by clear ha hb ha' hb'; first | (unfold sameP; simp_all; done) | exact (hlen.out (by assumption)).symm), ((Ext.refl w).alloc _).alloc _⟩)
    | skip
  rename_i q1 q2 q3 q4 q5 q6 K hK
  have hs : sameP a b = decide (a.ps = b.ps) := by unfold sameP; simp [q1, q2, q3, q4, q5]
  have hl : a.ps.length = b.ps.length := by simp at q6; omega
  rw [← hl] at hb'
  clear q1 q2 q3 q4 q5 q6 ha hb hmb hlen
  obtain ⟨n, hn⟩ : ∃ n, n = a.ps.length := ⟨_, rfl⟩
  rw [← hl, ← hn]
  rw [← hn] at ha' hb' hma
  replace hs := hide hs
  replace hl := hide hl
  replace hn := hide hn
  go_loopw [5] (fun s5 wr => ∃ i : Nat, s5 = .int .i64 i ∧ i ≤ n ∧ Hid (a.ps.take i = b.ps.take i) ∧ Hid (Ext w wr) ∧ Hid (wr.cell? ⟨w.heap.size, 0, none⟩ = some (.slice A n c)) ∧ Hid (wr.cell? ⟨w.heap.size + 1, 0, none⟩ = some (.slice B n c2))) (fun s5 _ => n - (intOf s5).toNat)
  case atStart => exact ⟨0, rfl, by omega, rfl, hide (((Ext.refl w).alloc _).alloc _), hide (by go_simp), hide (by go_simp)⟩
  case round =>
    obtain ⟨i, rfl, hi, hab, hE, hx, hy⟩ := hrel
    have x0 := hx.out
    have y0 := hy.out
    by_cases hin : i < n
    · obtain ⟨g, s, p, rfl, hp, hpo, k0, k1, k2, k3, k4, k5, k6⟩ := (ha'.ext hE.out).at_ hin
      obtain ⟨g2, s2, q, rfl, hq, hqo, j0, j1, j2, j3, j4, j5, j6⟩ := (hb'.ext hE.out).at_ hin
      have hne := part_ne p q
      unfold Pt.val at hne
      replace hp := hide hp
      replace hq := hide hq
      have hi0 : (0 : Int) ≤ i := by omega
      have hi1 : (i : Int) < n := by omega
      go_wp2_with fail
      go_quiet (fail)
      go_wp2_with fail
      · go_ret
        have h : ¬ p = q := by first | assumption | simp_all
        rw [hs.out]
        exact ⟨ret_bool (decide_eq_false fun e => h (by have e1 := hp.out; rw [e, hq.out] at e1; exact (Option.some.inj e1).symm)).symm, by first | exact hE.out.drew | exact hE.out.drewN _⟩
      · go_roundw
        case rel => 
          have h : p = q := by first | assumption | simp_all
          exact ⟨i + 1, by go_num, by omega, hide (by rw [List.take_add_one, List.take_add_one, hab.out, hp.out, hq.out, h]), by first | exact hide hE.out.drew | exact hide (hE.out.drewN _),
            hide ((by first | exact (Ext.refl _).drew | exact (Ext.refl _).drewN _ : Ext wr _).cell hx.out), hide ((by first | exact (Ext.refl _).drew | exact (Ext.refl _).drewN _ : Ext wr _).cell hy.out)⟩
        case measure => simp [intOf]; omega
    · obtain rfl : i = n := by omega
      go_wp2_with fail
      go_ret
      rw [hs.out]
      refine ⟨ret_bool (decide_eq_true ?_).symm, hE.out⟩
      have h := hab.out
      rw [List.take_of_length_le (by rw [hn.out]; exact Nat.le_refl _), List.take_of_length_le (by rw [hn.out, hl.out]; exact Nat.le_refl _)] at h
      exact h
end Go.Proofs.YtaoolpnnomhnoaaGreatDoor

/- loggia/manifest: names of eight digits. -/
namespace Go.Proofs.YtaoolpnnomhnoaaGreatDoor
open Go.RowKit

theorem cat_bytes (a b : List UInt8) : (ByteArray.mk a.toArray ++ ByteArray.mk b.toArray) = ⟨(a ++ b).toArray⟩ := by
  apply ByteArray.ext
  rw [ByteArray.data_append]
  simp
theorem cat_bytes2 (a : Array UInt8) (b : List UInt8) : (ByteArray.mk a ++ ByteArray.mk b.toArray) = ⟨(a.toList ++ b).toArray⟩ := by
  have := cat_bytes a.toList b
  simpa using this
theorem ret_str {a b : ByteArray} (h : a = b) : Ending.returned (.string a) = .returned (.string b) := by rw [h]
def dig8 (n : Nat) : List UInt8 := Lib.repeatL [48] (8 - (Lib.decDigits n).length) ++ Lib.decDigits n
set_option maxRecDepth 100000 in
set_option maxHeartbeats 2000000 in
theorem eight_of (n : Nat) (w : World) (h8 : (Lib.decDigits n).length ≤ 8)
    (hI : ∀ W, Ext w W → Calls Tryz.prog 93 #[.int .i64 n] W fun e w' => e = .returned (.string ⟨(Lib.decDigits n).toArray⟩) ∧ Ext W w') :
    Calls Tryz.prog 67 #[.int .i64 n] w fun e w' => e = .returned (.string ⟨(dig8 n).toArray⟩) ∧ Ext w w' := by
  have hR : ∀ W, Calls Tryz.prog 94 #[.string ⟨#[48]⟩, .int .i64 ((8 - (Lib.decDigits n).length : Nat) : Int)] W fun e w' => e = .returned (.string ⟨(Lib.repeatL [48] (8 - (Lib.decDigits n).length)).toArray⟩) ∧ Ext W w' := fun W => Tryz.strings_Repeat ⟨#[48]⟩ _ W (by omega) (by show 1 * _ ≤ _; omega)
  have hd : dig8 n = Lib.repeatL [48] (8 - (Lib.decDigits n).length) ++ Lib.decDigits n := rfl
  obtain ⟨D, hD⟩ : ∃ D, D = Lib.decDigits n := ⟨_, rfl⟩
  rw [← hD] at h8 hI hR hd
  obtain ⟨Z, hZ⟩ : ∃ Z, Z = Lib.repeatL [48] (8 - D.length) := ⟨_, rfl⟩
  rw [← hZ] at hR hd
  have hZl : Z.length ≤ 8 := by rw [hZ, Lib.repeatL_length]; simp
  obtain ⟨k, hk⟩ : ∃ k, k = 8 - D.length := ⟨_, rfl⟩
  have hki : (8 : Int) - (D.length : Int) = (k : Int) := by omega
  rw [← hk] at hR
  replace hI := hide hI
  replace hR := hide hR
  replace hd := hide hd
  clear hD hZ hk
  go_enter Tryz.func67, Tryz.ntmps67
  go_wp2_with fail
  refine (hI.out _ (Ext.refl w)).mono ?_
  rintro e w1 ⟨rfl, hE1⟩
  go_wp2_with fail
  refine (hR.out _).mono ?_
  rintro e w2 ⟨rfl, hE2⟩
  go_wp2_with fail
  go_ret
  rw [hd.out]
  exact ⟨ret_str (cat_bytes _ _), hE1.trans hE2⟩
theorem dd8 {n : Nat} (h1 : 1 ≤ n) (h2 : n ≤ 99999999) : (Lib.decDigits n).length ≤ 8 := by
  rw [Lib.decDigits_length]
  rcases Nat.lt_or_ge n 10 with h | h
  · rw [Lib.nDigits_unique 0 n (by omega) (by omega)]; omega
  rcases Nat.lt_or_ge n 100 with h | h
  · rw [Lib.nDigits_unique 1 n (by omega) (by omega)]; omega
  rcases Nat.lt_or_ge n 1000 with h | h
  · rw [Lib.nDigits_unique 2 n (by omega) (by omega)]; omega
  rcases Nat.lt_or_ge n 10000 with h | h
  · rw [Lib.nDigits_unique 3 n (by omega) (by omega)]; omega
  rcases Nat.lt_or_ge n 100000 with h | h
  · rw [Lib.nDigits_unique 4 n (by omega) (by omega)]; omega
  rcases Nat.lt_or_ge n 1000000 with h | h
  · rw [Lib.nDigits_unique 5 n (by omega) (by omega)]; omega
  rcases Nat.lt_or_ge n 10000000 with h | h
  · rw [Lib.nDigits_unique 6 n (by omega) (by omega)]; omega
  · rw [Lib.nDigits_unique 7 n (by omega) (by omega)]; omega
theorem dig8_len {n : Nat} (h : (Lib.decDigits n).length ≤ 8) : (dig8 n).length = 8 := by
  unfold dig8
  rw [List.length_append, Lib.repeatL_length]
  simp
  omega
/-- What it takes that a number is put in eight digits there. -/
def Eights (w : World) (n : Int) : Prop := numP n = true → ∀ W, Ext w W → Calls Tryz.prog 67 #[.int .i64 n] W fun e w' => e = .returned (.string ⟨(dig8 n.toNat).toArray⟩) ∧ Ext W w'
theorem Eights.ext {w w1 : World} {n : Int} (h : Eights w n) (hE : Ext w w1) : Eights w1 n := fun hn W hW => h hn W (hE.trans hW)
theorem eights_small (w : World) (n : Nat) (h : n < 100) : Eights w n := fun hn W _ => by
  have h1 : 1 ≤ n := by unfold numP at hn; simp at hn; omega
  rw [Int.toNat_natCast]
  exact eight_of n W (dd8 h1 (by omega)) fun W' _ => (Tryz.strconv_Itoa_small n h W').mono fun e w' ⟨h1, h2⟩ => ⟨h1, by rw [h2]; exact Ext.refl _⟩
def logP (n : Int) : List UInt8 := if numP n then [108, 111, 103, 45] ++ dig8 n.toNat else []
def fileP (id st : Int) : List UInt8 := if numP id = false then [] else if st = 2 then [115, 101, 103, 45] ++ dig8 id.toNat else if st = 3 then [105, 99, 101, 45] ++ dig8 id.toNat else []
set_option maxRecDepth 100000 in
set_option maxHeartbeats 2000000 in
theorem log_any (n : Int) (w : World) (h : Eights w n) : Calls Tryz.prog 33 #[.int .i64 n] w fun e w' => e = .returned (.string ⟨(logP n).toArray⟩) ∧ Ext w w' := by
  have hn := hide (numbered_any n)
  replace h := hide h
  go_enter Tryz.func33, Tryz.ntmps33
  go_wp2_with fail
  refine (hn.out _).mono ?_
  rintro e w1 ⟨rfl, rfl⟩
  have hl : (!numP n) = false → (dig8 n.toNat).length ≤ 8 := fun hq => by unfold numP at hq; simp at hq; rw [dig8_len (dd8 (by omega) (by omega))]; omega
  replace hl := hide hl
  go_wp2_with (go_at_call 67; refine (h.out (by simp_all) _ (Ext.refl _)).mono ?_; rintro e w2 ⟨rfl, hE2⟩; have hl2 := hl.out ‹_›)
  · go_ret
    exact ⟨by unfold logP; simp_all, Ext.refl _⟩
  · go_ret
    exact ⟨ret_str (by rw [cat_bytes2]; unfold logP; simp_all), hE2⟩
set_option maxRecDepth 100000 in
set_option maxHeartbeats 4000000 in
theorem file_any (p : Pt) (w : World) (h : Eights w p.id) : Calls Tryz.prog 32 #[p.val] w fun e w' => e = .returned (.string ⟨(fileP p.id p.st).toArray⟩) ∧ Ext w w' := by
  have hn := hide (numbered_any p.id)
  have hE0 : ∀ cs t, Ext w (w.alloc (.cells cs t)) := fun _ _ => (Ext.refl w).alloc _
  replace hE0 := hide hE0
  replace h := hide h
  have hl : (!numP p.id) = false → (dig8 p.id.toNat).length ≤ 8 := fun hq => by unfold numP at hq; simp at hq; rw [dig8_len (dd8 (by omega) (by omega))]; omega
  replace hl := hide hl
  unfold Pt.val
  go_enter Tryz.func32, Tryz.ntmps32
  go_wp2_with (first | (go_at_call 66; refine (hn.out _).mono ?_; rintro e w1 ⟨rfl, rfl⟩) | (go_at_call 67; refine (h.out (by simp_all) _ (hE0.out _ _)).mono ?_; rintro e w2 ⟨rfl, hE2⟩; have hl2 := hl.out ‹_›))
  · go_ret
    exact ⟨ret_str (by unfold fileP; simp_all), hE0.out _ _⟩
  · go_ret
    exact ⟨ret_str (by rw [cat_bytes2]; unfold fileP; simp_all), (hE0.out _ _).trans hE2⟩
  · go_ret
    exact ⟨ret_str (by rw [cat_bytes2]; unfold fileP; simp_all), (hE0.out _ _).trans hE2⟩
  · go_ret
    exact ⟨ret_str (by unfold fileP; simp_all), hE0.out _ _⟩
end Go.Proofs.YtaoolpnnomhnoaaGreatDoor

/- loggialaw16: awake. -/
namespace Go.Proofs.YtaoolpnnomhnoaaGreatDoor
open Go.RowKit

theorem file7 : fileP 7 2 = [115, 101, 103, 45, 48, 48, 48, 48, 48, 48, 48, 55] := by
  have h : dig8 (7 : Int).toNat = [48, 48, 48, 48, 48, 48, 48, 55] := by
    show dig8 7 = _
    unfold dig8
    rw [Lib.decDigits_one (by omega)]
    rfl
  unfold fileP
  rw [h]
  rfl
theorem log12 : logP 12 = [108, 111, 103, 45, 48, 48, 48, 48, 48, 48, 49, 50] := by
  have h : dig8 (12 : Int).toNat = [48, 48, 48, 48, 48, 48, 49, 50] := by
    show dig8 12 = _
    unfold dig8
    rw [Lib.decDigits_two (by omega) (by omega)]
    rfl
  unfold logP
  rw [h]
  rfl
def nilM : Mf := ⟨[], 0, 0, 0, 0, 0⟩
theorem nilM_ok (w : World) (base : Nat) : nilM.Ok w base none 0 :=
  ⟨⟨rfl, .inl rfl, nofun, Nat.le_refl _, by show 0 ≤ _; omega, nofun⟩, by unfold I64ok; decide, by unfold I64ok; decide, by unfold I64ok; decide, by unfold I64ok; decide, by unfold I64ok; decide⟩
set_option maxRecDepth 100000 in
set_option maxHeartbeats 4000000 in
theorem awake_any (w : World) : Calls Tryz.prog 9 #[] w fun e w' => e = .returned (.bool true) ∧ Ext w w' := by
  have hnew := hide new_any
  have hfile : ∀ W, Calls Tryz.prog 32 #[.agg #[.int .i64 7, .int .i64 2, .int .i64 0, .int .i64 0, .int .i64 0, .int .i64 0, .int .i64 0]] W fun e w' => e = .returned (.string ⟨#[115, 101, 103, 45, 48, 48, 48, 48, 48, 48, 48, 55]⟩) ∧ Ext W w' := fun W => by
    have h := file_any ⟨7, 2, 0, 0, 0, 0, 0⟩ W (eights_small W 7 (by omega))
    rw [show fileP (Pt.id ⟨7, 2, 0, 0, 0, 0, 0⟩) (Pt.st ⟨7, 2, 0, 0, 0, 0, 0⟩) = _ from file7] at h
    exact h
  have hlog : ∀ W, Calls Tryz.prog 33 #[.int .i64 12] W fun e w' => e = .returned (.string ⟨#[108, 111, 103, 45, 48, 48, 48, 48, 48, 48, 49, 50]⟩) ∧ Ext W w' := fun W => by
    have h := log_any 12 W (eights_small W 12 (by omega))
    rw [log12] at h
    exact h
  have hck : ∀ W, Calls Tryz.prog 34 #[.agg #[.slice none 0 0, .int .i64 0, .int .i64 0, .int .i64 0, .int .i64 0, .int .i64 0]] W fun e w' => e = .returned (.int .i64 160) ∧ Ext W w' := fun W => check_any 0 nilM none 0 W (nilM_ok W 0)
  replace hfile := hide hfile
  replace hlog := hide hlog
  replace hck := hide hck
  unfold Mf.val newM at hnew
  go_enter Tryz.func9, Tryz.ntmps9
  go_wp2_with fail
  refine (hnew.out _).mono ?_
  rintro e w1 ⟨rfl, hE1⟩
  go_wp2_with fail
  refine (hfile.out _).mono ?_
  rintro e w2 ⟨rfl, hE2⟩
  go_wp2_with fail
  refine (hlog.out _).mono ?_
  rintro e w3 ⟨rfl, hE3⟩
  have hE := hide (((Ext.refl w1).alloc _).trans (hE2.trans hE3))
  have hr := (Row.new w1 24 #[.slice none 0 0, .int .i64 (-9223372036854775808), .int .i64 0, .int .i64 1, .int .i64 1, .int .i64 (-9223372036854775808)]).ext (hE2.trans hE3)
  have x1 := hr.cell 1 rfl
  have x3 := hr.cell 3 rfl
  have hEE := hide (hE1.trans hE.out)
  go_wp2_with fail
  refine (hck.out _).mono ?_
  rintro e w4 ⟨rfl, hE4⟩
  go_wp2_with fail
  go_ret
  exact ⟨rfl, hEE.out.trans hE4⟩
end Go.Proofs.YtaoolpnnomhnoaaGreatDoor

/- Encode and Decode as values; what stands ahead in the laws. -/
namespace Go.Proofs.YtaoolpnnomhnoaaGreatDoor
open Go.RowKit

def encV (m : Mf) : List UInt8 := if checkP m = 0 then encM m else []
def EncW (w : World) (m : Mf) (e : Ending) (w' : World) : Prop := ∃ A c, e = .returned (.tuple #[.slice A (encV m).length c, .int .i64 (checkP m)]) ∧ In8 w' A (encV m).length c (encV m) ∧ Ext w w'
theorem EncP.val {w w' : World} {m : Mf} {e : Ending} (h : EncP w m e w') : EncW w m e w' := by
  obtain ⟨hE, h1, h2⟩ := h
  unfold EncW encV
  by_cases hc : checkP m = 0
  · obtain ⟨A, c, rfl, hb⟩ := h1 hc
    rw [if_pos hc, hc]
    exact ⟨A, c, rfl, hb.in8, hE⟩
  · rw [if_neg hc]
    exact ⟨none, 0, h2 hc, ⟨rfl, .inl rfl, Nat.le_refl _, fun _ => rfl, nofun⟩, hE⟩
def decF (l : List UInt8) : Mf := (decM l).getD nilMf
def decC (l : List UInt8) : Nat := if (decM l).isSome then 0 else 160
theorem nilMf_ok (w : World) (base : Nat) : nilMf.Ok w base none 0 :=
  ⟨⟨rfl, .inl rfl, nofun, Nat.le_refl _, by show 0 ≤ _; omega, nofun⟩, by unfold I64ok; decide, by unfold I64ok; decide, by unfold I64ok; decide, by unfold I64ok; decide, by unfold I64ok; decide⟩
def DecW (w : World) (l : List UInt8) (e : Ending) (w' : World) : Prop := ∃ A c, e = .returned (.tuple #[(decF l).val A c, .int .i64 (decC l)]) ∧ (decF l).Ok w' w'.heap.size A c ∧ Ext w w'
theorem DecP.val {w w' : World} {l : List UInt8} {e : Ending} (h : DecP w (decM l) e w') : DecW w l e w' := by
  obtain ⟨hE, h⟩ := h
  unfold DecW decF decC
  cases hd : decM l with
  | none => rw [hd] at h; exact ⟨none, 0, h, nilMf_ok _ _, hE⟩
  | some m => rw [hd] at h; obtain ⟨A, c, rfl, ho⟩ := h; exact ⟨A, c, rfl, ho, hE⟩
theorem sameP_refl (m : Mf) : sameP m m = true := by unfold sameP; simp
end Go.Proofs.YtaoolpnnomhnoaaGreatDoor

/- loggia/disk: Restart, what it needs. -/
namespace Go.Proofs.YtaoolpnnomhnoaaGreatDoor
open Go.RowKit Go.Maps

/-- How many bytes are left of a file. -/
def Ent.left (e : Ent) (k : Option Int) : Nat := leftM e.pl k
def Ent.cut (e : Ent) (n : Nat) : Ent := { e with b := e.b.take n, sure := n, c := n }
def keptE (E : List Ent) (keep : List Int) : List Ent := E.mapIdx fun j e => e.cut (e.left keep[j]?)
theorem left_le (e : Ent) (h : e.sure ≤ e.b.length) (k : Option Int) : e.left k ≤ e.b.length := by
  cases k with
  | none => exact h
  | some k =>
    show e.sure + (k % ((e.b.length : Int) - e.sure + 1)).toNat ≤ e.b.length
    have h1 := Int.emod_nonneg k (show (e.b.length : Int) - e.sure + 1 ≠ 0 by omega)
    have h2 := Int.emod_lt_of_pos k (show 0 < (e.b.length : Int) - e.sure + 1 by omega)
    omega
theorem kept_get {E : List Ent} {keep : List Int} {j : Nat} {x : Ent} (h : (keptE E keep)[j]? = some x) : ∃ e : Ent, E[j]? = some e ∧ x = e.cut (e.left keep[j]?) := by
  unfold keptE at h
  rw [List.getElem?_mapIdx] at h
  cases he : E[j]? with
  | none => rw [he] at h; cases h
  | some e =>
    rw [he] at h
    exact ⟨e, rfl, (Option.some.inj h).symm⟩
theorem kept_pl (E : List Ent) (keep : List Int) : (keptE E keep).map Ent.pl = keptM (E.map Ent.pl) keep := by
  apply List.ext_getElem?
  intro j
  unfold keptE keptM
  rw [List.getElem?_map, List.getElem?_mapIdx, List.getElem?_mapIdx, List.getElem?_map]
  cases E[j]? <;> rfl
theorem kept_mem {E : List Ent} {keep : List Int} {x : Ent} (h : x ∈ keptE E keep) : ∃ (j : Nat) (e : Ent), E[j]? = some e ∧ x = e.cut (e.left keep[j]?) := by
  obtain ⟨j, hj⟩ := List.getElem?_of_mem h
  obtain ⟨e, he, hx⟩ := kept_get hj
  exact ⟨j, e, he, hx⟩
theorem kept_pw {R : Ent → Ent → Prop} {E : List Ent} {keep : List Int} (h : E.Pairwise R) (hr : ∀ a b i k, R a b → R (a.cut i) (b.cut k)) : (keptE E keep).Pairwise R := by
  rw [List.pairwise_iff_getElem] at h ⊢
  intro i j hi hj hij
  have hl : (keptE E keep).length = E.length := by unfold keptE; simp
  have hg : ∀ (i : Nat) (hi : i < (keptE E keep).length), (keptE E keep)[i] = (E[i]'(by omega)).cut ((E[i]'(by omega)).left keep[i]?) := fun i hi => List.getElem_mapIdx ..
  rw [hg i hi, hg j hj]
  exact hr _ _ _ _ (h i j (by omega) (by omega) hij)
theorem kept_len (E : List Ent) (keep : List Int) : (keptE E keep).length = E.length := by unfold keptE; simp
theorem kept_in {E : List Ent} {keep : List Int} {e : Ent} (h : e ∈ E) : ∃ n, e.cut n ∈ keptE E keep := by
  obtain ⟨j, hj⟩ := List.getElem?_of_mem h
  refine ⟨e.left keep[j]?, List.mem_of_getElem? (i := j) ?_⟩
  unfold keptE
  rw [List.getElem?_mapIdx, hj]
  rfl
/-- Where Restart has come to: the first i files are cut. -/
structure Cut (w wr : World) (base m : Nat) (E : List Ent) (keep : List Int) (i : Nat) : Prop where
  chg : Chg (fun k => ∃ e ∈ E, k = e.f) w wr
  now : ∀ j e, E[j]? = some e → Row wr e.f 79 (if j < i then #[.slice e.A (e.left keep[j]?) (e.left keep[j]?), .int .i64 (e.left keep[j]?)] else #[.slice e.A e.b.length e.c, .int .i64 e.sure])
section
variable {w wr w1 : World} {base d m : Nat} {P : PD} {E : List Ent} {keep : List Int}
theorem Cut.start (hD : DE w base d m P E) : Cut w w base m E keep 0 := ⟨Chg.refl _ _, fun j e h => by
  rw [if_neg (by omega)]
  exact (hD.fs.ok e (List.mem_of_getElem? h)).row⟩
theorem Cut.step {i : Nat} {e : Ent} (hD : DE w base d m P E) (h : Cut w wr base m E keep i) (he : E[i]? = some e) {v : Value} (hv : v = .slice e.A (e.left keep[i]?) (e.left keep[i]?)) {u : Value} (hu : u = .int .i64 (e.left keep[i]?)) :
    Cut w ((wr.setCell ⟨e.f, 0, none⟩ v).setCell ⟨e.f, 1, none⟩ u) base m E keep (i + 1) := by
  subst hv hu
  have hm := List.mem_of_getElem? he
  refine ⟨(h.chg.trans (Chg.of_set (S := fun k => k = e.f) wr (a := ⟨e.f, 0, none⟩) _ rfl) fun k _ hk => ⟨e, hm, hk⟩).trans (Chg.of_set (S := fun k => k = e.f) _ (a := ⟨e.f, 1, none⟩) _ rfl) fun k _ hk => ⟨e, hm, hk⟩, fun j x hx => ?_⟩
  have hr := h.now j x hx
  by_cases hji : j = i
  · subst hji
    obtain rfl : x = e := Option.some.inj (hx.symm.trans he)
    rw [if_neg (by omega)] at hr
    rw [if_pos (by omega)]
    exact (hr.put 0 _).put 1 _
  · have hne : x.f ≠ e.f := by
      have hjl := (List.getElem?_eq_some_iff.1 hx)
      have hil := (List.getElem?_eq_some_iff.1 he)
      obtain ⟨hj1, hj2⟩ := hjl
      obtain ⟨hi1, hi2⟩ := hil
      have hp := List.pairwise_iff_getElem.1 hD.fs.fd
      rcases Nat.lt_or_gt_of_ne hji with hlt | hlt
      · have := hp j i hj1 hi1 hlt
        rw [hj2, hi2] at this
        exact this
      · have := hp i j hi1 hj1 hlt
        rw [hj2, hi2] at this
        exact fun hh => this hh.symm
    by_cases hlt : j < i
    · rw [if_pos hlt] at hr
      rw [if_pos (by omega)]
      exact (hr.away (p := ⟨e.f, 0, none⟩) hne _).away (p := ⟨e.f, 1, none⟩) hne _
    · rw [if_neg hlt] at hr
      rw [if_neg (by omega)]
      exact (hr.away (p := ⟨e.f, 0, none⟩) hne _).away (p := ⟨e.f, 1, none⟩) hne _
theorem cut_end (hD : DE w base d m P E) (h : Cut w wr base m E keep E.length) {wf : World} (hf : wf = (wr.setCell ⟨d, 3, none⟩ (.bool false)).setCell ⟨d, 2, none⟩ (.int .i64 0)) :
    DE wf base d m (restartM P keep) (keptE E keep) ∧ Chg (Foot d m E) w wf ∧ ∀ k, Foot d m (keptE E keep) k → Foot d m E k := by
  have hap := hD.apart
  have hcd : Chg (fun k => k = d) wr wf := by
    rw [hf]
    exact (Chg.of_set (S := fun k => k = d) wr (a := ⟨d, 3, none⟩) _ rfl).trans (Chg.of_set (S := fun k => k = d) _ (a := ⟨d, 2, none⟩) _ rfl) fun _ _ h => h
  obtain ⟨L, hL, hmem, _⟩ := hD.fs.map
  have hrow : DRow wf d m P.quota 0 false := by
    have h1 : Row wr d 56 _ := h.chg.row hD.row fun ⟨e, he, hh⟩ => (hap.2 e he).1 hh
    rw [hf]
    exact (h1.put 3 _).put 2 _
  have hup : Up Ent.name (keptE E keep) := kept_pw hD.up fun _ _ _ _ h => h
  refine ⟨⟨hrow, ⟨⟨L, hL.keep ((hcd.block m (Nat.lt_of_lt_of_le hL.lt h.chg.size) fun hh => hap.1 hh.symm).trans (h.chg.block m hL.lt fun ⟨e, he, hh⟩ => ((hD.fs.ok e he).ne_map hL).1 hh.symm)), ?_, ?_⟩, ?_, hD.fs.low, hup.nodup, ?_, kept_pw hD.fs.fd fun _ _ _ _ h => h, kept_pw hD.fs.ad fun _ _ _ _ h => h⟩, hD.low, hup, by rw [kept_len]; exact hD.cnt, ?_, ?_, hD.hq, by show 0 ≤ _; omega⟩, ?_, ?_⟩
  · intro p
    rw [hmem]
    constructor
    · rintro ⟨e, he, rfl⟩
      obtain ⟨n, hn⟩ := kept_in (keep := keep) he
      exact ⟨_, hn, rfl⟩
    · rintro ⟨x, hx, rfl⟩
      obtain ⟨j, e, he, rfl⟩ := kept_mem hx
      exact ⟨e, List.mem_of_getElem? he, rfl⟩
  · rw [kept_len]
    exact kv_len hL hD.up hmem
  · intro x hx
    obtain ⟨j, e, he, rfl⟩ := kept_mem hx
    have hm := List.mem_of_getElem? he
    have hok := hD.fs.ok e hm
    have hj : j < E.length := (List.getElem?_eq_some_iff.1 he).1
    have hr := h.now j e he
    rw [if_pos hj] at hr
    have hle := left_le e hok.sure keep[j]?
    have hlen : (e.b.take (e.left keep[j]?)).length = e.left keep[j]? := by rw [List.length_take]; omega
    refine ⟨?_, ?_, hok.low, ?_⟩
    · show Row wf e.f _ #[.slice e.A (e.b.take (e.left keep[j]?)).length (e.left keep[j]?), .int .i64 (e.left keep[j]?)]
      rw [hlen]
      exact hcd.row hr fun hh => (hap.2 e hm).1 hh.symm
    · show Buf wf base 5 e.A (e.b.take (e.left keep[j]?)).length (e.left keep[j]?) ((e.b.take (e.left keep[j]?)).map B8)
      rw [hlen, List.map_take]
      have hb := hok.buf.cut (m := e.left keep[j]?) (k := e.left keep[j]?) hle (Nat.le_refl _) (Nat.le_trans hle hok.buf.2.1)
      refine (hb.chg h.chg ?_).chg hcd ?_
      · rintro a ha ⟨e', he', hh⟩
        exact (hD.fs.ok e' he').fa hok a ha hh.symm
      · intro a ha hh
        exact (hap.2 e hm).2 a ha hh.symm
    · show e.left keep[j]? ≤ (e.b.take (e.left keep[j]?)).length
      rw [hlen]
      exact Nat.le_refl _
  · intro x hx
    obtain ⟨j, e, he, rfl⟩ := kept_mem hx
    exact hD.fs.short e (List.mem_of_getElem? he)
  · intro x hx
    obtain ⟨j, e, he, rfl⟩ := kept_mem hx
    show (e.b.take (e.left keep[j]?)).length ≤ 67108864
    rw [List.length_take]
    have := hD.lens e (List.mem_of_getElem? he)
    omega
  · rw [kept_pl, hD.pl]
    rfl
  · refine (h.chg.mono (S' := Foot d m E) fun k _ ⟨e, he, hk⟩ => .inr (.inr ⟨e, he, .inl hk⟩)).trans hcd fun k _ hk => .inl hk
  · rintro k (h | h | ⟨x, hx, h⟩)
    · exact .inl h
    · exact .inr (.inl h)
    · obtain ⟨j, e, he, rfl⟩ := kept_mem hx
      exact .inr (.inr ⟨e, List.mem_of_getElem? he, h⟩)
end
set_option maxRecDepth 100000 in
/-- x[:n:n] -/
theorem run_cut {t e n c k : Nat} {A : Option Addr} (ht : Tryz.prog.underlying t = some (.slice e)) (hs : ∀ W : World, (sizeOf e).run Tryz.prog W = .ok 1 W) (h : k ≤ c) (hA : ∀ a, A = some a → a.spot = none) (W : World) :
    (Instr.sliceAt t (.slice A n c) none (some (.int .i64 k)) (some (.int .i64 k))).run Tryz.prog W = .ok (.slice A k k) W := by
  have he : Tryz.prog.elem t = e := by unfold Program.elem; rw [ht]
  rw [run_sliceAt_slice W t _ _ _ _ (by rw [ht, he]), run_slice_hm W t A n c (by rw [ht, he]) .i64 .i64 k k (by omega) (by omega) (by omega), he, hs]
  simp only [Result.andThen_ok]
  congr 1
  unfold sliced
  have : (if ((k : Int).toNat) = 0 then A else A.map fun x => x.add (0 * 1)) = A := by
    cases A with
    | none => simp
    | some a =>
      obtain ⟨b, o, sp⟩ := a
      obtain rfl : sp = none := hA _ rfl
      simp [Addr.add_lit]
  rw [this]
  simp
end Go.Proofs.YtaoolpnnomhnoaaGreatDoor

/- loggia/disk: Restart. -/
namespace Go.Proofs.YtaoolpnnomhnoaaGreatDoor
open Go.RowKit Go.Maps

theorem DE.lookup1 {w : World} {base d m : Nat} {P : PD} {E : List Ent} {e : Ent} (h : DE w base d m P E) (he : e ∈ E) (W : World) (hW : W.heap[m]? = w.heap[m]?) :
    (Instr.lookup 54 (.map (some m)) (str e.name) false).run Tryz.prog W = .ok (.pointer (some ⟨e.f, 0, none⟩)) W := by
  obtain ⟨L, hL, hmem, _⟩ := h.fs.map
  rcases (hL.keep hW).look keyS Tryz.underlying54 (x := str e.name) (z := .pointer none) (key_str (h.fs.short e he)) (by kernel_rfl) false with ⟨v, hv, hrun⟩ | ⟨hno, hrun⟩
  · have : v = .pointer (some ⟨e.f, 0, none⟩) := (hL.keep hW).unique hv ((hmem e.kv).2 ⟨e, he, rfl⟩)
    rw [this] at hrun
    exact hrun
  · exact (hno e.kv ((hmem _).2 ⟨e, he, rfl⟩) rfl).elim
theorem Cut.drew {w wr : World} {base m : Nat} {E : List Ent} {keep : List Int} {i : Nat} (h : Cut w wr base m E keep i) : Cut w wr.drew base m E keep i :=
  ⟨h.chg.trans (Chg.of_ext (Ext.refl wr).drew (fun _ => False)) (fun _ _ h => h.elim), fun j e he => (h.now j e he).drew⟩
def I64 (k : Int) : Value := .int .i64 k
theorem tmod_is (k m : Int) (hm : 0 < m) : k.tmod m = k % m ∨ (k.tmod m = k % m - m ∧ k % m ≠ 0) := by
  rw [Int.tmod_eq_emod]
  have hn : (m.natAbs : Int) = m := by omega
  by_cases h3 : 0 ≤ k ∨ m ∣ k
  · rw [if_pos h3]
    exact .inl (by omega)
  · rw [if_neg h3, hn]
    exact .inr ⟨rfl, fun h => h3 (.inr (Int.dvd_of_emod_eq_zero h))⟩
theorem tmod_bd (k m : Int) (hm : 0 < m) : -m < k.tmod m ∧ k.tmod m < m := by
  have h1 := Int.emod_nonneg k (show m ≠ 0 by omega)
  have h2 := Int.emod_lt_of_pos k hm
  rcases tmod_is k m hm with h | ⟨h, h3⟩ <;> omega
/-- What Go's way of reckoning it gives. -/
theorem go_mod (k m : Int) (hm : 0 < m) : (k.tmod m + m).tmod m = k % m := by
  have hb := tmod_bd k m hm
  rw [Int.tmod_eq_emod_of_nonneg (by omega), Int.add_emod_right]
  rcases tmod_is k m hm with h | ⟨h, _⟩
  · rw [h, Int.emod_emod]
  · rw [h, Int.sub_emod_right, Int.emod_emod]
set_option maxRecDepth 100000 in
set_option maxHeartbeats 2000000 in
theorem restart_any0 (base d : Nat) (P : PD) (F : Nat → Prop) (K : Option Addr) (kn kc : Nat) (keep : List Int) (w : World) (h : DS w base d P F) (hK : Cells w K (keep.map I64)) (hKF : keep ≠ [] → ∀ a, K = some a → ¬ F a.block) (hkn : kn = keep.length)
    (hkb : ∀ k ∈ keep, -9223372036854775808 ≤ k ∧ k ≤ 9223372036854775807) (hkl : kn ≤ 9223372036854775807) :
    Calls Tryz.prog 11 #[.pointer (some ⟨d, 0, none⟩), .slice K kn kc] w fun e w' => e = .returned (.tuple #[]) ∧ DNext base d F w (restartM P keep) w' := by
  have hS := h
  obtain ⟨m, E, hD, hF⟩ := h
  have h0 := none_any d m P.quota P.armed P.stopped w hD.row
  have hnm := names_any base d m P.quota P.armed P.stopped E w hD.row hD.fs hD.cnt
  rw [sortN_eq hD.up.le] at hnm
  replace h0 := hide h0
  replace hnm := hide hnm
  replace hkn := hide hkn
  go_enter Tryz.func11, Tryz.ntmps11
  go_wp2_with fail
  refine h0.out.mono ?_
  rintro e w1 ⟨rfl, rfl⟩
  go_wp2_with fail
  refine hnm.out.mono ?_
  rintro e w2 ⟨A, n, c, rfl, hn, hbuf, hE⟩
  have hD2 : DE w2 base d m P E := hD.chg (Chg.of_ext hE (fun _ => False)) (fun _ h => h.elim)
  have hnc := hD.cnt
  have hn2 : n ≤ 1024 := by omega
  have hst := Cut.start (keep := keep) hD2
  replace hn := hide hn
  go_wp2_with fail
  go_loopw [14] (fun s14 wr => ∃ i : Nat, s14 = .int .i64 i ∧ i ≤ n ∧ Hid (Cut w2 wr base m E keep i)) (fun s14 _ => n - (intOf s14).toNat)
  case atStart => exact ⟨0, rfl, by omega, hide hst⟩
  case round =>
    obtain ⟨i, rfl, hi, hcut⟩ := hrel
    by_cases hin : i < n
    · have hil : i < E.length := by rw [← hn.out]; exact hin
      obtain ⟨e, he⟩ : ∃ e, E[i]? = some e := ⟨_, List.getElem?_eq_getElem hil⟩
      have hm := List.mem_of_getElem? he
      have hc := hcut.out.chg
      have hap := hD2.apart
      obtain ⟨g, o, rfl, hcl⟩ := hbuf.cells.at_ (by rw [List.length_map, List.length_map]; omega)
      have hgb : w1.heap.size ≤ g := hbuf.base_le _ rfl
      have cn : w2.cell? ⟨g, o + i, none⟩ = some (str e.name) := hcl i _ (by simp [he])
      have cnr : wr.cell? ⟨g, o + i, none⟩ = some (str e.name) := hc.cell cn fun ⟨e', he', hh⟩ => by
        have h1 := (hD.fs.ok e' he').row.lt
        have h2 : g = e'.f := hh
        omega
      have c0 : wr.cell? ⟨d, 0, none⟩ = some (.map (some m)) := (Chg.row hc hD2.row fun ⟨e', he', hh⟩ => (hap.2 e' he').1 hh).cell 0 rfl
      have hmb : wr.heap[m]? = w2.heap[m]? := by
        obtain ⟨L, hL, hmem, _⟩ := hD2.fs.map
        exact hc.block m hL.lt fun ⟨e', he', hh⟩ => ((hD2.fs.ok e' he').ne_map hL).1 hh.symm
      have hlk := hD2.lookup1 hm wr hmb
      have hr := hcut.out.now i e he
      rw [if_neg (by omega)] at hr
      have cf0 : wr.cell? ⟨e.f, 0, none⟩ = some (.slice e.A e.b.length e.c) := hr.cell 0 rfl
      have cf1 : wr.cell? ⟨e.f, 1, none⟩ = some (.int .i64 e.sure) := hr.cell 1 rfl
      have f0 := hr.free 0
      have f1 := hr.free 1
      have hok := hD2.fs.ok e hm
      have hsu := hok.sure
      have hbl := hD2.lens e hm
      have hbc := hok.buf.2.1
      have hsp : ∀ a, e.A = some a → a.spot = none := by
        intro a hA
        rcases hok.buf.2.2 with h | ⟨g, cur, hg, _⟩
        · rw [hA] at h; cases h.1
        · rw [hA] at hg; cases hg; rfl
      obtain ⟨left, hleft⟩ : ∃ left, left = e.left keep[i]? := ⟨_, rfl⟩
      have hll := left_le e hsu keep[i]?
      rw [← hleft] at hll
      have hsl := run_cut (t := 57) (e := 5) (n := e.b.length) (c := e.c) (k := left) Tryz.underlying57 (fun W => by kernel_rfl) (by omega) hsp
      have hstep := Cut.step (v := .slice e.A left left) (u := .int .i64 left) hD2 hcut.out he (by rw [hleft]) (by rw [hleft])
      obtain ⟨bl, hbln⟩ : ∃ bl, bl = e.b.length := ⟨_, rfl⟩
      obtain ⟨su, hsun⟩ : ∃ su, su = e.sure := ⟨_, rfl⟩
      rw [← hbln] at cf0 hbl hll hsl hsu
      rw [← hsun] at cf1 hsu
      unfold str at cnr hlk
      replace hstep := hide hstep
      replace hmb := hide hmb
      replace hsp := hide hsp
      by_cases hik : i < kn
      · obtain ⟨kg, ko, rfl, hkc⟩ := hK.at_ (by rw [List.length_map, ← hkn.out]; omega)
        obtain ⟨k, hk⟩ : ∃ k, keep[i]? = some k := ⟨_, List.getElem?_eq_getElem (by rw [← hkn.out]; exact hik)⟩
        have hkne : keep ≠ [] := fun e => by rw [e] at hk; simp at hk
        have ck : w1.cell? ⟨kg, ko + i, none⟩ = some (.int .i64 k) := hkc i (I64 k) (by rw [List.getElem?_map, hk]; rfl)
        have ckr : wr.cell? ⟨kg, ko + i, none⟩ = some (.int .i64 k) := hc.cell (hE.cell ck) fun ⟨e', he', hh⟩ => hKF hkne _ rfl ((hF _).2 (.inr (.inr ⟨e', he', .inl hh⟩)))
        obtain ⟨hk1, hk2⟩ := hkb k (List.mem_of_getElem? hk)
        have hlk2 : (left : Int) = su + (k.tmod ((bl : Int) - su + 1) + ((bl : Int) - su + 1)).tmod ((bl : Int) - su + 1) := by
          rw [go_mod _ _ (by omega), hleft, hk]
          show ((e.sure + (k % ((e.b.length : Int) - e.sure + 1)).toNat : Nat) : Int) = _
          rw [hbln, hsun]
          have := Int.emod_nonneg k (show (e.b.length : Int) - e.sure + 1 ≠ 0 by omega)
          omega
        have hlk3 : (su : Int) + k.tmod ((bl : Int) - su + 1) % ((bl : Int) - su + 1) = left := by
          have hb := tmod_bd k ((bl : Int) - su + 1) (by omega)
          rw [Int.tmod_eq_emod_of_nonneg (by omega), Int.add_emod_right] at hlk2
          exact hlk2.symm
        have htb := tmod_bd k ((bl : Int) - su + 1) (by omega)
        replace hbln := hide hbln
        replace hsun := hide hsun
        replace hleft := hide hleft
        replace hlk2 := hide hlk2
        replace hk := hide hk
        clear hcl hkc hr hst hok hap hD2 ck cn
        go_wp2_with fail
        refine wp_region_text follows (by kernel_rfl) (by kernel_rfl) (fun K hK => ?_)
        go_wp2_with fail
        refine ⟨by kernel_rfl, ?_⟩
        go_wp2_with fail
        go_roundw
        case rel => exact ⟨i + 1, by go_num, by omega, hide (Cut.drew hstep.out)⟩
        case measure => simp [intOf]; omega
      · have hlk2 : left = su := by
          have : keep[i]? = none := List.getElem?_eq_none (by rw [← hkn.out]; omega)
          rw [hleft, this, hsun]
          rfl
        subst hlk2
        replace hbln := hide hbln
        replace hsun := hide hsun
        replace hleft := hide hleft
        clear hcl hr hst hok hap hD2 cn
        go_wp2_with fail
        go_roundw
        case rel => exact ⟨i + 1, by go_num, by omega, hstep⟩
        case measure => simp [intOf]; omega
    · obtain rfl : i = n := by omega
      have hc := hcut.out.chg
      have hap := hD2.apart
      have hrd : DRow wr d m P.quota P.armed P.stopped := Chg.row hc hD2.row fun ⟨e', he', hh⟩ => (hap.2 e' he').1 hh
      have c2 : wr.cell? ⟨d, 2, none⟩ = some (.int .i64 P.armed) := Row.cell hrd 2 rfl
      have c3 : wr.cell? ⟨d, 3, none⟩ = some (.bool P.stopped) := Row.cell hrd 3 rfl
      have f2 := Row.free hrd 2
      have f3 := Row.free hrd 3
      have hcut2 := hcut.out
      rw [hn.out] at hcut2
      obtain ⟨h1, h2, h3⟩ := cut_end hD2 hcut2 rfl
      have fin : DNext base d F w1 (restartM P keep) _ := hS.next hF h1 ((Chg.of_ext hE (Foot d m E)).trans h2 fun _ _ h => h) fun k hk => .inl (h3 k hk)
      replace fin := hide fin
      clear h1 h2 h3 hcut2 hrd hap hc hst
      go_wp2_with fail
      go_end0
      exact ⟨rfl, fin.out⟩
theorem restart_any (base d : Nat) (P : PD) (F : Nat → Prop) (K : Option Addr) (kn kc : Nat) (keep : List Int) (w : World) (h : DS w base d P F) (hK : Cells w K (keep.map I64)) (hKF : ∀ a, K = some a → ¬ F a.block) (hkn : kn = keep.length)
    (hkb : ∀ k ∈ keep, -9223372036854775808 ≤ k ∧ k ≤ 9223372036854775807) (hkl : kn ≤ 9223372036854775807) :
    Calls Tryz.prog 11 #[.pointer (some ⟨d, 0, none⟩), .slice K kn kc] w fun e w' => e = .returned (.tuple #[]) ∧ DNext base d F w (restartM P keep) w' := restart_any0 base d P F K kn kc keep w h hK (fun _ => hKF) hkn hkb hkl
end Go.Proofs.YtaoolpnnomhnoaaGreatDoor

/- A disk's blocks by their type; calls of a disk one behind the other. -/
namespace Go.Proofs.YtaoolpnnomhnoaaGreatDoor
open Go.RowKit Go.Maps

theorem MapL.notRow {P : Program} {k : TypeId} {w : World} {m : Nat} {L : List (Value × Value)} (h : MapL P k w m L) {t : TypeId} {cs : Array Value} : ¬ Row w m t cs := fun hr => by
  obtain ⟨⟨_, _, h1, _⟩, _, _⟩ := h
  unfold Row at hr
  rw [hr] at h1
  cases h1
theorem DS.kind {w : World} {base d g : Nat} {P : PD} {F : Nat → Prop} (h : DS w base d P F) (hF : F g) {t : TypeId} {cs : Array Value} (hr : Row w g t cs) : t = 56 ∨ t = 79 ∨ t = 5 := by
  obtain ⟨m, E, hD, hf⟩ := h
  have key : ∀ {t2 : TypeId} {cs2 : Array Value}, Row w g t2 cs2 → t = t2 := fun {t2 cs2} h2 => Decidable.byContradiction fun hne => Row.unlike hr h2 hne rfl
  rcases (hf g).1 hF with rfl | rfl | ⟨e, he, rfl | ⟨a, ha, rfl⟩⟩
  · exact .inl (key hD.row)
  · obtain ⟨L, hL, _⟩ := hD.fs.map
    exact (hL.notRow hr).elim
  · exact .inr (.inl (key (hD.fs.ok e he).row))
  · obtain ⟨_, _, hb⟩ := (hD.fs.ok e he).buf
    rcases hb with ⟨h0, _⟩ | ⟨g, cur, hA, _, hrow, _⟩
    · rw [h0] at ha; cases ha
    · rw [hA] at ha
      injection ha with ha
      subst ha
      exact .inr (.inr (key hrow))
theorem row_disk {w w' : World} {g b0 d : Nat} {t : TypeId} {cs : Array Value} {P : PD} {F : Nat → Prop} (h : Row w g t cs) (hD : DS w b0 d P F) (hc : Chg F w w') (he : t ≠ 56 ∧ t ≠ 79 ∧ t ≠ 5) : Row w' g t cs :=
  hc.row h fun hF => by
    rcases hD.kind hF h with h | h | h
    · exact he.1 h
    · exact he.2.1 h
    · exact he.2.2 h
theorem owns_disk {w w' : World} {base b0 d size n : Nat} {e : TypeId} {v : Value} {xs : List Value} {P : PD} {F : Nat → Prop} (h : w.ownsRow base e size v n xs) (hD : DS w b0 d P F) (hc : Chg F w w') (he : e ≠ 56 ∧ e ≠ 79 ∧ e ≠ 5) : w'.ownsRow base e size v n xs :=
  hc.owns h fun g hg hF => by
    obtain ⟨cs, hr, _⟩ := owns_row h hg
    rcases hD.kind hF hr with h | h | h
    · exact he.1 h
    · exact he.2.1 h
    · exact he.2.2 h
theorem DNext.seq {w w1 wx w2 : World} {base d : Nat} {P2 : PD} {F F1 : Nat → Prop} (hC : Chg F w w1) (hF : ∀ k, F1 k → F k ∨ w.heap.size ≤ k) (hE : Ext w1 wx) (h2 : DNext base d F1 wx P2 w2) : DNext base d F w P2 w2 := by
  obtain ⟨F2, h3, h4, h5⟩ := h2
  have hs : w.heap.size ≤ wx.heap.size := Nat.le_trans hC.size hE.size
  refine ⟨F2, h3, (hC.trans (Chg.of_ext hE F) fun _ _ h => h).trans h4 fun i hi h => ?_, fun k hk => ?_⟩
  · rcases hF i h with h | h
    · exact h
    · omega
  · rcases h5 k hk with h | h
    · exact hF k h
    · exact .inr (Nat.le_trans hs h)
theorem DNext.of_ext {w w1 : World} {base d : Nat} {P : PD} {F : Nat → Prop} (h : DS w base d P F) (hE : Ext w w1) : DNext base d F w P w1 := ⟨F, h.ext hE, Chg.of_ext hE F, fun _ h => .inl h⟩
theorem DNext.ext {w0 w w' : World} {base d : Nat} {P P' : PD} {F : Nat → Prop} (h : DNext base d F w P' w') (hS : DS w base d P F) (hE : Ext w0 w) (hb : w0.heap.size ≤ base) : ∃ F', DS w' base d P' F' ∧ Ext w0 w' := by
  obtain ⟨F', h1, h2, _⟩ := h
  exact ⟨F', h1, hE.chg h2 fun i hi hf => by have := hS.base_le hf; omega⟩
theorem DS.not_old {w : World} {base d : Nat} {P : PD} {F : Nat → Prop} (h : DS w base d P F) {k : Nat} (hk : w.heap.size ≤ k) : ¬ F k := fun hf => by have := h.lt hf; omega
end Go.Proofs.YtaoolpnnomhnoaaGreatDoor

/- loggia/manifest: what Save keeps from step to step; its four steps. -/
namespace Go.Proofs.YtaoolpnnomhnoaaGreatDoor
open Go.RowKit Go.Maps

/-- Behind a step of Save: the disk, the blocks of d, of b and of the four functions, the bytes. -/
structure SvS (base d : Nat) (F0 : Nat → Prop) (w0 : World) (b : List UInt8) (dv bv fv : Nat) (A : Option Addr) (c : Nat) (fs : Array Value) (w : World) (P : PD) (F : Nat → Prop) : Prop where
  ds : DS w base d P F
  dr : Row w dv 27 #[.pointer (some ⟨d, 0, none⟩)]
  br : Row w bv 57 #[.slice A b.length c]
  fr : Row w fv 63 fs
  bs : Bs w A b
  at_ : ∀ a, A = some a → ¬ F a.block ∧ a.block < w.heap.size
  low : base ≤ w.heap.size
  chg : Chg F0 w0 w
  new : ∀ k, F k → F0 k ∨ w0.heap.size ≤ k
def SvV (base d : Nat) (F0 : Nat → Prop) (w0 : World) (b : List UInt8) (dv bv fv : Nat) (A : Option Addr) (c : Nat) (fs : Array Value) (w : World) (P : PD) : Prop := ∃ F, SvS base d F0 w0 b dv bv fv A c fs w P F
section
variable {base d : Nat} {F0 : Nat → Prop} {w0 : World} {b : List UInt8} {dv bv fv : Nat} {A : Option Addr} {c : Nat} {fs : Array Value}
theorem SvS.ext {x y : World} {P : PD} {F : Nat → Prop} (h : SvS base d F0 w0 b dv bv fv A c fs x P F) (hE : Ext x y) : SvS base d F0 w0 b dv bv fv A c fs y P F :=
  ⟨h.ds.ext hE, h.dr.ext hE, h.br.ext hE, h.fr.ext hE, h.bs.ext hE, fun a ha => ⟨(h.at_ a ha).1, Nat.lt_of_lt_of_le (h.at_ a ha).2 hE.size⟩, Nat.le_trans h.low hE.size, h.chg.trans (Chg.of_ext hE F0) fun _ _ h => h, h.new⟩
theorem SvS.next {x wx y : World} {P P' : PD} {F : Nat → Prop} (h : SvS base d F0 w0 b dv bv fv A c fs x P F) (hE : Ext x wx) (hN : DNext base d F wx P' y) : SvV base d F0 w0 b dv bv fv A c fs y P' := by
  have k := h.ext hE
  obtain ⟨F', n1, n2, n3⟩ := hN
  have hs0 : w0.heap.size ≤ wx.heap.size := k.chg.size
  refine ⟨F', n1, row_disk k.dr k.ds n2 (by decide), row_disk k.br k.ds n2 (by decide), row_disk k.fr k.ds n2 (by decide), n2.cells k.bs fun a ha => (k.at_ a ha).1, fun a ha => ⟨fun hf => ?_, ?_⟩, Nat.le_trans k.low n2.size, k.chg.trans n2 fun i hi hf => ?_, fun j hj => ?_⟩
  · rcases n3 _ hf with h | h
    · exact (k.at_ a ha).1 h
    · have := (k.at_ a ha).2; omega
  · have := (k.at_ a ha).2; have := n2.size; omega
  · rcases k.new i hf with h | h
    · exact h
    · omega
  · rcases n3 j hj with h | h
    · exact k.new j h
    · exact .inr (by omega)
theorem SvV.done {w : World} {P : PD} (h : SvV base d F0 w0 b dv bv fv A c fs w P) : DNext base d F0 w0 P w := by
  obtain ⟨F, h⟩ := h
  exact ⟨F, h.ds, h.chg, h.new⟩
theorem SvV.ext {x y : World} {P : PD} (h : SvV base d F0 w0 b dv bv fv A c fs x P) (hE : Ext x y) : SvV base d F0 w0 b dv bv fv A c fs y P := by
  obtain ⟨F, h⟩ := h
  exact ⟨F, h.ext hE⟩
set_option maxRecDepth 100000 in
theorem save1_any {x : World} {P : PD} (h : SvV base d F0 w0 b dv bv fv A c fs x P) :
    Calls Tryz.prog 23 #[.pointer (some ⟨dv, 0, none⟩)] x fun e w' => e = .returned (.int .i64 (goneM P).2) ∧ SvV base d F0 w0 b dv bv fv A c fs w' (goneM P).1 := by
  obtain ⟨F, h⟩ := h
  have c0 := h.dr.cell 0 rfl
  have hg := hide (gone_any base d P F x h.ds)
  replace h := hide h
  go_enter Tryz.func23, Tryz.ntmps23
  go_wp2_with fail
  refine hg.out.mono ?_
  rintro e w1 ⟨rfl, wx, hx, hN⟩
  go_wp2_with fail
  go_ret
  exact ⟨rfl, h.out.next hx hN⟩
set_option maxRecDepth 100000 in
theorem save2_any {x : World} {P : PD} (h : SvV base d F0 w0 b dv bv fv A c fs x P) (hb : b.length ≤ 1073741824) :
    Calls Tryz.prog 25 #[.pointer (some ⟨dv, 0, none⟩), .pointer (some ⟨bv, 0, none⟩)] x fun e w' => e = .returned (.int .i64 (appendM P comN b).2) ∧ SvV base d F0 w0 b dv bv fv A c fs w' (appendM P comN b).1 := by
  obtain ⟨F, h⟩ := h
  have c0 := h.dr.cell 0 rfl
  have c1 := h.br.cell 0 rfl
  have hg := append_any base d P F comN b A b.length c x h.ds com_len h.bs (fun a ha => (h.at_ a ha).1) rfl hb h.low
  unfold str at hg
  replace hg := hide hg
  replace h := hide h
  go_enter Tryz.func25, Tryz.ntmps25
  go_wp2_with fail
  refine hg.out.mono ?_
  rintro e w1 ⟨rfl, hN⟩
  go_wp2_with fail
  go_ret
  exact ⟨rfl, h.out.next (Ext.refl _) hN⟩
set_option maxRecDepth 100000 in
theorem save3_any {x : World} {P : PD} (h : SvV base d F0 w0 b dv bv fv A c fs x P) :
    Calls Tryz.prog 27 #[.pointer (some ⟨dv, 0, none⟩)] x fun e w' => e = .returned (.int .i64 (syncM P comN).2) ∧ SvV base d F0 w0 b dv bv fv A c fs w' (syncM P comN).1 := by
  obtain ⟨F, h⟩ := h
  have c0 := h.dr.cell 0 rfl
  have hg := sync_any base d P F comN x h.ds com_len
  unfold str at hg
  replace hg := hide hg
  replace h := hide h
  go_enter Tryz.func27, Tryz.ntmps27
  go_wp2_with fail
  refine hg.out.mono ?_
  rintro e w1 ⟨rfl, hN⟩
  go_wp2_with fail
  go_ret
  exact ⟨rfl, h.out.next (Ext.refl _) hN⟩
set_option maxRecDepth 100000 in
theorem save4_any {x : World} {P : PD} (h : SvV base d F0 w0 b dv bv fv A c fs x P) :
    Calls Tryz.prog 29 #[.pointer (some ⟨dv, 0, none⟩)] x fun e w' => e = .returned (.int .i64 (renameM P comN curN).2) ∧ SvV base d F0 w0 b dv bv fv A c fs w' (renameM P comN curN).1 := by
  obtain ⟨F, h⟩ := h
  have c0 := h.dr.cell 0 rfl
  have hg := rename_any base d P F comN curN x h.ds com_len cur_len
  unfold str at hg
  replace hg := hide hg
  replace h := hide h
  go_enter Tryz.func29, Tryz.ntmps29
  go_wp2_with fail
  refine hg.out.mono ?_
  rintro e w1 ⟨rfl, hN⟩
  go_wp2_with fail
  go_ret
  exact ⟨rfl, h.out.next (Ext.refl _) hN⟩
end
end Go.Proofs.YtaoolpnnomhnoaaGreatDoor

/- loggia/manifest: Save. -/
namespace Go.Proofs.YtaoolpnnomhnoaaGreatDoor
open Go.RowKit Go.Maps

theorem read_ne4 (P : PD) (s : List UInt8) (fr n : Int) : (readM P s fr n).2 ≠ 4 := by
  unfold readM
  split
  · split
    · simp
    · split
      · split <;> simp
      · simp
  · simp
/-- The four steps. -/
def svL (dv bv : Nat) (b : List UInt8) : List Stp := [⟨23, #[.pointer (some ⟨dv, 0, none⟩)], goneM⟩, ⟨25, #[.pointer (some ⟨dv, 0, none⟩), .pointer (some ⟨bv, 0, none⟩)], fun P => appendM P comN b⟩, ⟨27, #[.pointer (some ⟨dv, 0, none⟩)], fun P => syncM P comN⟩, ⟨29, #[.pointer (some ⟨dv, 0, none⟩)], fun P => renameM P comN curN⟩]
theorem svsteps_any {base d : Nat} {F0 : Nat → Prop} {w0 : World} {b : List UInt8} {dv bv fv : Nat} {A : Option Addr} {c : Nat} {w : World} {P : PD} (h : SvV base d F0 w0 b dv bv fv A c ((svL dv bv b).map Stp.val).toArray w P) (hb : b.length ≤ 1073741824) :
    Calls Tryz.prog 22 #[.slice (some ⟨fv, 0, none⟩) 4 4] w fun e w' => e = .returned (.int .i64 (stepsM P b).2) ∧ SvV base d F0 w0 b dv bv fv A c ((svL dv bv b).map Stp.val).toArray w' (stepsM P b).1 := by
  refine steps_any (fun w P => SvV base d F0 w0 b dv bv fv A c ((svL dv bv b).map Stp.val).toArray w P) (svL dv bv b) (some ⟨fv, 0, none⟩) 4 P w h (by show 4 ≤ 100; omega) (fun x Q hx => ?_) (fun x y Q hx hE => hx.ext hE) ?_ ?_
  · obtain ⟨F, hS⟩ := hx
    exact .inr ⟨fv, 0, rfl, fun i v hv => by rw [Nat.zero_add]; exact hS.fr.cell i (by simpa using hv)⟩
  · intro s hs args W
    simp only [svL, List.mem_cons, List.not_mem_nil, or_false] at hs
    rcases hs with rfl | rfl | rfl | rfl <;> kernel_rfl
  · intro s hs x Q hx
    simp only [svL, List.mem_cons, List.not_mem_nil, or_false] at hs
    rcases hs with rfl | rfl | rfl | rfl
    · exact save1_any hx
    · exact save2_any hx hb
    · exact save3_any hx
    · exact save4_any hx
set_option maxRecDepth 100000 in
set_option maxHeartbeats 8000000 in
theorem save_any (base d : Nat) (P : PD) (F : Nat → Prop) (mb : Nat) (m : Mf) (A : Option Addr) (c : Nat) (w : World) (h : DS w base d P F) (hm : m.Ok w mb A c) (hbase : base ≤ w.heap.size) :
    Calls Tryz.prog 7 #[.pointer (some ⟨d, 0, none⟩), m.val A c] w fun e w' => e = .returned (.int .i64 (saveM P m).2) ∧ ∃ wx, Ext w wx ∧ DNext base d F wx (saveM P m).1 w' := by
  have hrd := fun W (hE : Ext w W) => read_any base d P F curN 0 0 W (h.ext hE) cur_len (by omega) (by omega) (by omega) (by omega)
  have henc := fun W (hE : Ext w W) => encode_any mb m A c W (hm.ext hE)
  unfold str at hrd
  unfold Mf.val at henc ⊢
  replace hrd := hide hrd
  replace henc := hide henc
  replace h := hide h
  replace hm := hide hm
  obtain ⟨kr, hkr⟩ : ∃ k, k = (readM P curN 0 0).2 := ⟨_, rfl⟩
  have hk4 : ¬ (kr : Int) = 4 := by have := read_ne4 P curN 0 0; omega
  replace hkr := hide hkr
  obtain ⟨W1, hW1⟩ : ∃ W, W = w.alloc (.cells #[.pointer (some ⟨d, 0, none⟩)] 27) := ⟨_, rfl⟩
  obtain ⟨W2, hW2⟩ : ∃ W, W = W1.alloc (.cells #[.slice A m.ps.length c, .int .i64 m.floor, .int .i64 m.done, .int .i64 m.log, .int .i64 m.next, .int .i64 m.now] 24) := ⟨_, rfl⟩
  have hE1 : Ext w W1 := by rw [hW1]; exact (Ext.refl w).alloc _
  have hE2 : Ext W1 W2 := by rw [hW2]; exact (Ext.refl W1).alloc _
  have hE12 := hide (hE1.trans hE2)
  have hs1 : W1.heap.size = w.heap.size + 1 := by rw [hW1]; exact size_alloc _ _
  have r1 : Row W2 w.heap.size 27 #[.pointer (some ⟨d, 0, none⟩)] := (show Row W1 _ _ _ by rw [hW1]; exact Row.new w _ _).ext hE2
  have r2 : Row W2 (w.heap.size + 1) 24 #[.slice A m.ps.length c, .int .i64 m.floor, .int .i64 m.done, .int .i64 m.log, .int .i64 m.next, .int .i64 m.now] := by rw [hW2, ← hs1]; exact Row.new W1 _ _
  replace r1 := hide r1
  replace r2 := hide r2
  replace hs1 := hide hs1
  clear hE1 hE2
  go_enter Tryz.func7, Tryz.ntmps7
  go_wp2_with fail
  rw [← hW1, ← hW2]
  replace hW1 := hide hW1
  replace hW2 := hide hW2
  have q1 := r2.out.cell 0 rfl
  refine (hrd.out _ hE12.out).mono ?_
  rintro e w3 ⟨A3, k3, c3, rfl, _, _, hE3⟩
  rw [← hkr.out]
  have hE03 := hide (hE12.out.trans hE3)
  have x0 := (r2.out.ext hE3).cell 0 rfl
  have x1 := (r2.out.ext hE3).cell 1 rfl
  have x2 := (r2.out.ext hE3).cell 2 rfl
  have x3 := (r2.out.ext hE3).cell 3 rfl
  have x4 := (r2.out.ext hE3).cell 4 rfl
  have x5 := (r2.out.ext hE3).cell 5 rfl
  go_wp2_with fail
  refine (henc.out _ hE03.out).mono ?_
  rintro e w4 ⟨hE4, he1, he2⟩
  by_cases hc : checkP m = 0
  · obtain ⟨A4, c4, rfl, hb⟩ := he1 hc
    have hb4 := hb.cells
    have hbn := fun a ha => hb.lt a ha
    have hlen := enc_small hm.out.in_ hc
    have hlow : ∀ a, A4 = some a → w3.heap.size ≤ a.block := fun a ha => hb.base_le a ha
    obtain ⟨b, hbe⟩ : ∃ b, b = encM m := ⟨_, rfl⟩
    rw [← hbe] at hb4 hlen ⊢
    have hsv : saveM P m = if (stepsM P b).2 = 0 ∨ (stepsM P b).2 = 63 then stepsM P b else ((goneM (stepsM P b).1).1, (stepsM P b).2) := by unfold saveM; rw [if_pos hc, hbe]
    obtain ⟨w5, hw5⟩ : ∃ W, W = w4.alloc (.cells #[.slice A4 b.length c4] 57) := ⟨_, rfl⟩
    obtain ⟨w6, hw6⟩ : ∃ W, W = w5.alloc (.cells ((svL w.heap.size w4.heap.size b).map Stp.val).toArray 63) := ⟨_, rfl⟩
    have hE5 : Ext w4 w5 := by rw [hw5]; exact (Ext.refl w4).alloc _
    have hE6 : Ext w5 w6 := by rw [hw6]; exact (Ext.refl w5).alloc _
    have hs5 : w5.heap.size = w4.heap.size + 1 := by rw [hw5]; exact size_alloc _ _
    have hE06 := ((hE03.out.trans hE4).trans hE5).trans hE6
    have hV : SvV base d F w6 b w.heap.size w4.heap.size (w4.heap.size + 1) A4 c4 ((svL w.heap.size w4.heap.size b).map Stp.val).toArray w6 P :=
      ⟨F, h.out.ext hE06, r1.out.ext (((hE3.trans hE4).trans hE5).trans hE6), (show Row w5 _ _ _ by rw [hw5]; exact Row.new w4 _ _).ext hE6, by rw [hw6, ← hs5]; exact Row.new w5 _ _, Cells.ext hb4 (hE5.trans hE6), fun a ha => ⟨fun hf => by
        have h1 := h.out.lt hf
        have h2 := hlow a ha
        have h3 := hE03.out.size
        omega, Nat.lt_of_lt_of_le (hbn a ha) (hE5.trans hE6).size⟩, Nat.le_trans hbase hE06.size, Chg.refl _ _, fun _ h => .inl h⟩
    have hst := hide (svsteps_any hV (by omega))
    replace hE06 := hide hE06
    replace hsv := hide hsv
    unfold svL Stp.val at hw6
    simp only [List.map_cons, List.map_nil] at hw6
    replace hbe := hide hbe
    clear hV hE5 hE6 hs5 hb4 hbn hlow hlen hb he1 he2 x0 x1 x2 x3 x4 x5 q1
    go_wp2_with fail
    rw [← hw5, ← hw6]
    replace hw5 := hide hw5
    replace hw6 := hide hw6
    refine hst.out.mono ?_
    rintro e w7 ⟨rfl, hV7⟩
    obtain ⟨Q, hQ⟩ : ∃ Q, Q = stepsM P b := ⟨_, rfl⟩
    have hsv2 := hsv.out
    rw [← hQ] at hV7 hsv2 ⊢
    replace hQ := hide hQ
    obtain ⟨P7, e7⟩ := Q
    simp only at hV7 hsv2 ⊢
    obtain ⟨F7, hS7⟩ := hV7
    have y0 := hS7.dr.cell 0 rfl
    have hg := hide (gone_any base d P7 F7 w7 hS7.ds)
    replace hS7 := hide hS7
    by_cases h0 : e7 = 0
    · have h0i : (e7 : Int) = 0 := by omega
      rw [if_pos (.inl h0)] at hsv2
      replace hsv2 := hide hsv2
      replace h0 := hide h0
      go_wp2_with fail
      go_ret
      rw [hsv2.out]
      exact ⟨rfl, w6, hE06.out, (show SvV _ _ _ _ _ _ _ _ _ _ _ _ _ from ⟨F7, hS7.out⟩).done⟩
    · by_cases h63 : e7 = 63
      · have h0i : ¬ (e7 : Int) = 0 := by omega
        have h6i : (e7 : Int) = 63 := by omega
        rw [if_pos (.inr h63)] at hsv2
        replace hsv2 := hide hsv2
        replace h0 := hide h0
        replace h63 := hide h63
        go_wp2_with fail
        go_ret
        rw [hsv2.out]
        exact ⟨rfl, w6, hE06.out, (show SvV _ _ _ _ _ _ _ _ _ _ _ _ _ from ⟨F7, hS7.out⟩).done⟩
      · have h0i : ¬ (e7 : Int) = 0 := by omega
        have h6i : ¬ (e7 : Int) = 63 := by omega
        rw [if_neg (fun h => h.elim h0 h63)] at hsv2
        replace hsv2 := hide hsv2
        replace h0 := hide h0
        replace h63 := hide h63
        have t0 : ((e7 : Int) != 0) = true := bne_iff_ne.2 h0i
        have t6 : ((e7 : Int) != 63) = true := bne_iff_ne.2 h6i
        go_wp2_with fail
        refine hg.out.mono ?_
        rintro e w8 ⟨rfl, wx, hx, hN⟩
        go_wp2_with fail
        go_ret
        rw [hsv2.out]
        exact ⟨rfl, w6, hE06.out, (hS7.out.next hx hN).done⟩
  · obtain rfl := he2 hc
    have hci : ¬ (checkP m : Int) = 0 := by omega
    go_wp2_with fail
    go_ret
    rw [save_bad hc]
    exact ⟨rfl, _, (hE03.out.trans hE4).alloc _, F, h.out.ext ((hE03.out.trans hE4).alloc _), Chg.refl _ _, fun _ h => .inl h⟩
end Go.Proofs.YtaoolpnnomhnoaaGreatDoor

/- loggia/disk: Fork, what it needs. -/
namespace Go.Proofs.YtaoolpnnomhnoaaGreatDoor
open Go.RowKit Go.Maps

/-- Where Fork has come to: the files D of E are there anew as D2. -/
structure Fk (w wr : World) (m : Nat) (L : List (Value × Value)) (E D D2 : List Ent) (dv : Array Value) : Prop where
  rng : RangeL Tryz.prog 9 wr m (w.heap.size + 2) L (D.map fun e => str e.name)
  sub : ∀ e ∈ D, e ∈ E
  row : Row wr (w.heap.size + 1) 56 dv
  map : ∃ L2, MapL Tryz.prog 9 wr w.heap.size L2 ∧ ∀ p, p ∈ L2 ↔ ∃ e ∈ D2, p = e.kv
  pl : D2.map Ent.pl = D.map Ent.pl
  ok : ∀ e ∈ D2, EOk wr (w.heap.size + 3) e
  fd : D2.Pairwise (fun a b => a.f ≠ b.f)
  ad : D2.Pairwise (fun a b => ∀ x y, a.A = some x → b.A = some y → x.block ≠ y.block)
  ext : Ext w wr
theorem fk_step {w wr w2 w5 w6 : World} {base d m : Nat} {P : PD} {L L2 L' : List (Value × Value)} {E D D2 : List Ent} {dv : Array Value} {e0 : Ent} {A1 : Option Addr} {c1 : Nat} (hD : DE w base d m P E) (h : Fk w wr m L E D D2 dv) (he : e0 ∈ E) (hne : str e0.name ∉ D.map fun e => str e.name)
    (hR2 : RangeL Tryz.prog 9 w2 m (w.heap.size + 2) L ((D.map fun e => str e.name) ++ [str e0.name])) (hg2 : wr.grownBy w2 (some (w.heap.size + 2))) (hb5 : Buf w5 w2.heap.size 5 A1 e0.b.length c1 (e0.b.map B8)) (hE5 : Ext w2 w5)
    (hL2 : MapL Tryz.prog 9 wr w.heap.size L2) (hmem : ∀ p, p ∈ L2 ↔ ∃ e ∈ D2, p = e.kv) (hL' : MapL Tryz.prog 9 w6 w.heap.size L') (hput : Put L2 (str e0.name) (.pointer (some ⟨w5.heap.size, 0, none⟩)) L')
    (hg6 : (w5.alloc (.cells #[.slice A1 e0.b.length c1, .int .i64 e0.sure] 79)).grownBy w6 (some w.heap.size)) :
    Fk w w6 m L E (D ++ [e0]) (D2 ++ [⟨e0.name, w5.heap.size, e0.b, e0.sure, A1, c1⟩]) dv ∧ w6.rangeLeft m (w.heap.size + 2) = w2.rangeLeft m (w.heap.size + 2) := by
  obtain ⟨W, hW⟩ : ∃ W, W = w5.alloc (.cells #[.slice A1 e0.b.length c1, .int .i64 e0.sure] 79) := ⟨_, rfl⟩
  rw [← hW] at hg6
  have hEW : Ext w5 W := by rw [hW]; exact (Ext.refl w5).alloc _
  have hml := hD.lt (k := m) (.inr (.inl rfl))
  have hrl := hR2.lt
  have hsz5 := hE5.size
  have hc2 : Chg (fun k => k = w.heap.size + 2) wr w2 := Chg.of_grown hg2 fun k _ hk => by cases hk; rfl
  have hc6 : Chg (fun k => k = w.heap.size) W w6 := Chg.of_grown hg6 fun k _ hk => by cases hk; rfl
  have hEx : Ext w2 W := hE5.trans hEW
  have hr0 := (hR2.keep (Below.block hEx m hR2.map.lt) (Below.block hEx _ hrl)).keep (hc6.block m (Nat.lt_of_lt_of_le hR2.map.lt hEx.size) (by omega)) (hc6.block _ (Nat.lt_of_lt_of_le hrl hEx.size) (by omega))
  have hca : Chg (fun k => k = w.heap.size + 2 ∨ k = w.heap.size) wr w6 := ((hc2.mono (S' := fun k => k = w.heap.size + 2 ∨ k = w.heap.size) fun _ _ h => .inl h).trans (Chg.of_ext hEx (fun _ => False)) fun _ _ h => h.elim).trans hc6 fun _ _ h => .inr h
  have hnew : Row W w5.heap.size 79 #[.slice A1 e0.b.length c1, .int .i64 e0.sure] := by rw [hW]; exact Row.new _ _ _
  have hok0 : EOk w6 (w.heap.size + 3) ⟨e0.name, w5.heap.size, e0.b, e0.sure, A1, c1⟩ := by
    have hne5 : ¬ w5.heap.size = w.heap.size := by omega
    refine ⟨hc6.row hnew hne5, ?_, ?_, (hD.fs.ok e0 he).sure⟩
    · have hb := (hb5.ext hEW).chg hc6 fun a ha hh => by
        have := hb5.base_le a ha
        omega
      exact hb.lower (by omega)
    · show w.heap.size + 3 ≤ w5.heap.size
      omega
  refine ⟨⟨by rw [List.map_append]; exact hr0, ?_, hca.row h.row (by omega), ⟨L', hL', ?_⟩, ?_, ?_, ?_, ?_, ?_⟩, ?_⟩
  · intro e he'
    rcases List.mem_append.1 he' with h1 | h1
    · exact h.sub e h1
    · simp at h1; subst h1; exact he
  · intro p
    rw [hput.mem]
    constructor
    · rintro (rfl | ⟨h1, h2⟩)
      · exact ⟨_, List.mem_append_right _ (List.mem_singleton.2 rfl), rfl⟩
      · obtain ⟨e, he', rfl⟩ := (hmem p).1 h1
        exact ⟨e, List.mem_append_left _ he', rfl⟩
    · rintro ⟨e, he', rfl⟩
      rcases List.mem_append.1 he' with h1 | h1
      · refine .inr ⟨(hmem _).2 ⟨e, h1, rfl⟩, fun hn => hne ?_⟩
        have h2 : e.pl ∈ D.map Ent.pl := by rw [← h.pl]; exact List.mem_map.2 ⟨e, h1, rfl⟩
        obtain ⟨e', he2, hp⟩ := List.mem_map.1 h2
        have hnm : e'.name = e.name := congrArg Prod.fst hp
        refine List.mem_map.2 ⟨e', he2, ?_⟩
        show str e'.name = str e0.name
        rw [hnm]
        exact hn
      · rw [List.mem_singleton] at h1
        subst h1
        exact .inl rfl
  · rw [List.map_append, List.map_append, h.pl]
    rfl
  · intro e he'
    rcases List.mem_append.1 he' with h1 | h1
    · have hok := h.ok e h1
      have hlow := hok.low
      refine hok.keep (hca.block _ hok.row.lt (by omega)) fun a ha => hca.block _ (hok.buf.lt a ha) ?_
      have := hok.buf.base_le a ha
      omega
    · rw [List.mem_singleton] at h1
      subst h1
      exact hok0
  · rw [List.pairwise_append]
    refine ⟨h.fd, List.pairwise_singleton _ _, fun a ha b hb => ?_⟩
    rw [List.mem_singleton] at hb
    subst hb
    have := (h.ok a ha).row.lt
    have := hg2.size
    show a.f ≠ w5.heap.size
    omega
  · rw [List.pairwise_append]
    refine ⟨h.ad, List.pairwise_singleton _ _, fun a ha b hb x y hx hy => ?_⟩
    rw [List.mem_singleton] at hb
    subst hb
    have h1 := (h.ok a ha).buf.lt x hx
    have h2 := hb5.base_le y hy
    have := hg2.size
    omega
  · exact h.ext.chg hca fun i hi hh => by omega
  · unfold World.rangeLeft
    rw [(hc6.block m (Nat.lt_of_lt_of_le hR2.map.lt hEx.size) (by omega)).trans (Below.block hEx m hR2.map.lt), (hc6.block _ (Nat.lt_of_lt_of_le hrl hEx.size) (by omega)).trans (Below.block hEx _ hrl)]
/-- Files in the order of their names. -/
def sortE (l : List Ent) : List Ent := l.foldr (insG Ent.name) []
theorem sortE_mem {l : List Ent} {x : Ent} : x ∈ sortE l ↔ x ∈ l := by
  induction l with
  | nil => rfl
  | cons a l ih =>
    show x ∈ insG Ent.name a (sortE l) ↔ _
    rw [mem_ins, ih, List.mem_cons]
theorem sortE_perm : ∀ l : List Ent, (sortE l).Perm l
  | [] => List.Perm.refl _
  | a :: l => (perm_ins Ent.name a (sortE l)).trans ((sortE_perm l).cons a)
theorem sortE_up : ∀ {l : List Ent}, (l.map Ent.name).Nodup → Up Ent.name (sortE l)
  | [], _ => List.Pairwise.nil
  | a :: l, h => by
    rw [List.map_cons, List.nodup_cons] at h
    exact (sortE_up h.2).ins fun x hx hn => h.1 (hn ▸ List.mem_map.2 ⟨x, sortE_mem.1 hx, rfl⟩)
theorem fk_end {w wr : World} {base d m : Nat} {P : PD} {L : List (Value × Value)} {E D D2 : List Ent} (hD : DE w base d m P E) (hbase : base ≤ w.heap.size) (h : Fk w wr m L E D D2 #[.map (some w.heap.size), .int .i64 P.quota, .int .i64 P.armed, .bool P.stopped]) (hp : D.Perm E) :
    DS wr base (w.heap.size + 1) P (Foot (w.heap.size + 1) w.heap.size (sortE D2)) ∧ ∀ k, Foot (w.heap.size + 1) w.heap.size (sortE D2) k → w.heap.size ≤ k := by
  have hpp : (D2.map Ent.pl).Perm (E.map Ent.pl) := by rw [h.pl]; exact hp.map _
  have hnm : (D2.map Ent.name).Perm (E.map Ent.name) := by
    have := hpp.map fname
    rw [List.map_map, List.map_map] at this
    exact this
  have hnd : (D2.map Ent.name).Nodup := hnm.nodup_iff.2 hD.up.nodup
  have hup := sortE_up hnd
  obtain ⟨L2, hL2, hmem⟩ := h.map
  have hmem2 : ∀ p, p ∈ L2 ↔ ∃ e ∈ sortE D2, p = e.kv := fun p => by
    rw [hmem]
    exact ⟨fun ⟨e, he, hp⟩ => ⟨e, sortE_mem.2 he, hp⟩, fun ⟨e, he, hp⟩ => ⟨e, sortE_mem.1 he, hp⟩⟩
  have hplE : ∀ {e : Ent}, e ∈ D2 → ∃ e' ∈ E, e'.pl = e.pl := fun {e} he => by
    have : e.pl ∈ E.map Ent.pl := hpp.mem_iff.1 (List.mem_map.2 ⟨e, he, rfl⟩)
    obtain ⟨e', h1, h2⟩ := List.mem_map.1 this
    exact ⟨e', h1, h2⟩
  have hsl : (sortE D2).length = E.length := by
    rw [(sortE_perm D2).length_eq, ← List.length_map (f := Ent.pl), hpp.length_eq, List.length_map]
  refine ⟨⟨w.heap.size, sortE D2, ⟨h.row, ⟨⟨L2, hL2, hmem2, kv_len hL2 hup hmem2⟩, ?_, hbase, hup.nodup, ?_, ?_, ?_⟩, by omega, hup, by rw [hsl]; exact hD.cnt, ?_, ?_, hD.hq, hD.ha⟩, fun _ => Iff.rfl⟩, ?_⟩
  · intro e he
    have hok := h.ok e (sortE_mem.1 he)
    exact ⟨hok.row, hok.buf.lower (by omega), by have := hok.low; omega, hok.sure⟩
  · intro e he
    obtain ⟨e', h1, h2⟩ := hplE (sortE_mem.1 he)
    have : e'.name = e.name := congrArg Prod.fst h2
    rw [← this]
    exact hD.fs.short e' h1
  · exact ((sortE_perm D2).pairwise_iff fun h => h.symm).2 h.fd
  · exact ((sortE_perm D2).pairwise_iff (R := fun a b : Ent => ∀ x y, a.A = some x → b.A = some y → x.block ≠ y.block) fun h a b ha hb => (h b a hb ha).symm).2 h.ad
  · intro e he
    obtain ⟨e', h1, h2⟩ := hplE (sortE_mem.1 he)
    have : e'.b = e.b := congrArg (fun x => x.2.1) h2
    rw [← this]
    exact hD.lens e' h1
  · rw [← hD.pl]
    refine Up.ext (nm := fname) ?_ ?_ fun x => ?_
    · unfold Up
      rw [List.pairwise_map]
      exact hup
    · unfold Up
      rw [List.pairwise_map]
      exact hD.up
    · exact ((((sortE_perm D2).map Ent.pl).trans hpp).mem_iff)
  · rintro k (rfl | rfl | ⟨e, he, rfl | ⟨a, ha, rfl⟩⟩)
    · omega
    · omega
    · have := (h.ok e (sortE_mem.1 he)).low
      omega
    · have := (h.ok e (sortE_mem.1 he)).buf.base_le a ha
      omega
end Go.Proofs.YtaoolpnnomhnoaaGreatDoor

/- loggia/disk: Fork. -/
namespace Go.Proofs.YtaoolpnnomhnoaaGreatDoor
open Go.RowKit Go.Maps

def FkS (d2 m2 f : Nat) (A : Option Addr) (n c sure : Nat) (w : World) : Prop := w.cell? ⟨d2, 0, none⟩ = some (.map (some m2)) ∧ w.cell? ⟨f, 0, none⟩ = some (.slice A n c) ∧ w.cell? ⟨f, 1, none⟩ = some (.int .i64 sure)
end Go.Proofs.YtaoolpnnomhnoaaGreatDoor

/- loggiaref06: how a document's disk lies in memory; find. -/
namespace Go.Proofs.YtaoolpnnomhnoaaGreatDoor
open Go.RowKit Go.Maps

set_option maxRecDepth 100000 in
theorem elemF : Elem Tryz.prog 42 94 3 48 := ⟨Tryz.underlying42, ⟨_, _, rfl, rfl, rfl, rfl, rfl⟩, by omega, by omega⟩
/-- A file of the document's: its name, its bytes, how many are durable, where they lie. -/
structure RE where
  name : List UInt8
  b : List UInt8
  sure : Nat
  A : Option Addr
  c : Nat
def RE.cells (r : RE) : List Value := [str r.name, .slice r.A r.b.length r.c, .int .i64 r.sure]
def RE.agg (r : RE) : Value := .agg #[str r.name, .slice r.A r.b.length r.c, .int .i64 r.sure]
def RE.pl (r : RE) : PF := (r.name, r.b, r.sure)
def rcells (R : List RE) : List Value := R.flatMap RE.cells
theorem rcells_len (R : List RE) : (rcells R).length = R.length * 3 := by
  unfold rcells
  induction R with
  | nil => rfl
  | cons r R ih => rw [List.flatMap_cons, List.length_append, ih, List.length_cons]; simp [RE.cells]; omega
theorem rcells_get : ∀ (R : List RE) (i : Nat) (r : RE) (k : Nat), R[i]? = some r → k < 3 → (rcells R)[i * 3 + k]? = r.cells[k]?
  | [], i, r, k, h, _ => by simp at h
  | x :: R, 0, r, k, h, hk => by
    obtain rfl : x = r := by simpa using h
    unfold rcells
    rw [List.flatMap_cons, List.getElem?_append_left (by simp [RE.cells]; omega), Nat.zero_mul, Nat.zero_add]
  | x :: R, i + 1, r, k, h, hk => by
    have h' : R[i]? = some r := by simpa using h
    have ih := rcells_get R i r k h' hk
    unfold rcells at ih ⊢
    rw [List.flatMap_cons, List.getElem?_append_right (by simp [RE.cells]; omega)]
    have : (i + 1) * 3 + k - x.cells.length = i * 3 + k := by
      have : x.cells.length = 3 := rfl
      omega
    rw [this]
    exact ih
theorem rcells_append (R S : List RE) : rcells (R ++ S) = rcells R ++ rcells S := by unfold rcells; rw [List.flatMap_append]
/-- A file's bytes lie, away from the blocks N. -/
structure ROk (w : World) (N : Nat → Prop) (r : RE) : Prop where
  bytes : Bs w r.A r.b
  cap : r.b.length ≤ r.c
  nil : r.A = none → r.c = 0
  away : ∀ a, r.A = some a → a.block < w.heap.size ∧ ¬ N a.block ∧ a.spot = none
  sure : r.sure ≤ r.b.length
  name : r.name.length ≤ 9223372036854775807
  len : r.b.length ≤ 67108864
/-- A row of files lies, away from the blocks N. -/
structure RS (w : World) (N : Nat → Prop) (A : Option Addr) (n c : Nat) (R : List RE) : Prop where
  len : n = R.length
  cells : Cells w A (rcells R)
  away : ∀ a, A = some a → a.block < w.heap.size ∧ ¬ N a.block
  cap : n ≤ c
  many : n ≤ 1024
  ok : ∀ r ∈ R, ROk w N r
section
variable {w w1 : World} {N N' S : Nat → Prop} {A : Option Addr} {n c : Nat} {R : List RE} {r : RE}
theorem ROk.chg (h : ROk w N r) (hc : Chg S w w1) (hs : ∀ k, k < w.heap.size → S k → N k) (hn : ∀ k, k < w.heap.size → N' k → N k) : ROk w1 N' r :=
  ⟨hc.cells h.bytes fun a ha hh => (h.away a ha).2.1 (hs _ (h.away a ha).1 hh), h.cap, h.nil, fun a ha => ⟨Nat.lt_of_lt_of_le (h.away a ha).1 hc.size, fun hh => (h.away a ha).2.1 (hn _ (h.away a ha).1 hh), (h.away a ha).2.2⟩, h.sure, h.name, h.len⟩
theorem RS.chg (h : RS w N A n c R) (hc : Chg S w w1) (hs : ∀ k, k < w.heap.size → S k → N k) (hn : ∀ k, k < w.heap.size → N' k → N k) : RS w1 N' A n c R :=
  ⟨h.len, hc.cells h.cells fun a ha hh => (h.away a ha).2 (hs _ (h.away a ha).1 hh), fun a ha => ⟨Nat.lt_of_lt_of_le (h.away a ha).1 hc.size, fun hh => (h.away a ha).2 (hn _ (h.away a ha).1 hh)⟩, h.cap, h.many, fun r hr => (h.ok r hr).chg hc hs hn⟩
theorem ROk.ext (h : ROk w N r) (he : Ext w w1) : ROk w1 N r := h.chg (Chg.of_ext he (fun _ => False)) (fun _ _ h => h.elim) (fun _ _ h => h)
theorem RS.ext (h : RS w N A n c R) (he : Ext w w1) : RS w1 N A n c R := h.chg (Chg.of_ext he (fun _ => False)) (fun _ _ h => h.elim) (fun _ _ h => h)
theorem RS.nil (w : World) (N : Nat → Prop) : RS w N none 0 0 [] := ⟨rfl, Cells.nil _ _, nofun, by omega, by omega, by simp⟩
/-- Where a file's cells lie. -/
theorem RS.at_ (h : RS w N A n c R) {i : Nat} (hi : i < n) : ∃ g o r, A = some ⟨g, o, none⟩ ∧ R[i]? = some r ∧ w.cell? ⟨g, o + i * 3, none⟩ = some (str r.name) ∧ w.cell? ⟨g, o + i * 3 + 1, none⟩ = some (.slice r.A r.b.length r.c) ∧ w.cell? ⟨g, o + i * 3 + 2, none⟩ = some (.int .i64 r.sure) := by
  have hl : i < R.length := by rw [← h.len]; exact hi
  obtain ⟨g, o, hA, hc⟩ := h.cells.at_ (by rw [rcells_len]; omega)
  have hr : R[i]? = some R[i] := List.getElem?_eq_getElem hl
  refine ⟨g, o, R[i], hA, hr, ?_, ?_, ?_⟩
  · have := hc (i * 3 + 0) (str R[i].name) (by rw [rcells_get R i _ 0 hr (by omega)]; rfl)
    exact this
  · have := hc (i * 3 + 1) (.slice R[i].A R[i].b.length R[i].c) (by rw [rcells_get R i _ 1 hr (by omega)]; rfl)
    rw [← Nat.add_assoc] at this
    exact this
  · have := hc (i * 3 + 2) (.int .i64 R[i].sure) (by rw [rcells_get R i _ 2 hr (by omega)]; rfl)
    rw [← Nat.add_assoc] at this
    exact this
end
/-- The document's disk as a value. -/
def rdisk (A : Option Addr) (n c q a : Nat) (st : Bool) : Value := .agg #[.slice A n c, .int .i64 q, .int .i64 a, .bool st]
/-- Where a file of a name is. -/
def rfind (R : List RE) (s : List UInt8) : Option Nat := R.findIdx? fun r => decide (r.name = s)
theorem rfind_some {R : List RE} {s : List UInt8} {i : Nat} {r : RE} (h : R[i]? = some r) (hs : r.name = s) (hno : ∀ j r, j < i → R[j]? = some r → r.name ≠ s) : rfind R s = some i := by
  obtain ⟨hi, hr⟩ := List.getElem?_eq_some_iff.1 h
  unfold rfind
  rw [List.findIdx?_eq_some_iff_getElem]
  refine ⟨hi, by rw [hr]; exact decide_eq_true hs, fun j hj hp => hno j _ hj (List.getElem?_eq_getElem (by omega)) (of_decide_eq_true hp)⟩
theorem rfind_none {R : List RE} {s : List UInt8} (hno : ∀ j r, j < R.length → R[j]? = some r → r.name ≠ s) : rfind R s = none := by
  unfold rfind
  rw [List.findIdx?_eq_none_iff]
  intro r hr
  obtain ⟨j, hj⟩ := List.getElem?_of_mem hr
  exact decide_eq_false (hno j r (List.getElem?_eq_some_iff.1 hj).1 hj)
set_option maxRecDepth 100000 in
set_option maxHeartbeats 1000000 in
theorem rfind_any (N : Nat → Prop) (A : Option Addr) (n c q a : Nat) (st : Bool) (R : List RE) (s : List UInt8) (w : World) (h : RS w N A n c R) :
    Calls Tryz.prog 74 #[rdisk A n c q a st, str s] w fun e w' => e = .returned (.tuple #[.int .i64 ((rfind R s).getD 0 : Nat), .bool (rfind R s).isSome]) ∧ Ext w w' := by
  unfold rdisk str
  have hlen := h.len
  have hmany := h.many
  replace hlen := hide hlen
  go_enter Tryz.func74, Tryz.ntmps74
  go_wp2_with fail
  obtain ⟨W, hW⟩ : ∃ W, W = w.alloc (.cells #[.slice A n c, .int .i64 q, .int .i64 a, .bool st] 44) := ⟨_, rfl⟩
  rw [← hW]
  have hE : Ext w W := by rw [hW]; exact (Ext.refl w).alloc _
  have c0 : W.cell? ⟨w.heap.size, 0, none⟩ = some (.slice A n c) := by rw [hW]; exact (Row.new w _ _).cell 0 rfl
  have hR := h.ext hE
  replace hW := hide hW
  go_loopw [6] (fun s6 wr => ∃ i : Nat, s6 = .int .i64 i ∧ i ≤ n ∧ Hid (∀ j r, j < i → R[j]? = some r → r.name ≠ s) ∧ wr = W) (fun s6 _ => n - (intOf s6).toNat)
  case atStart => exact ⟨0, rfl, by omega, hide (fun j r h => by omega), rfl⟩
  case round =>
    obtain ⟨i, rfl, hi, hno, rfl⟩ := hrel
    by_cases hin : i < n
    · obtain ⟨g, o, r, rfl, hr, k0, k1, k2⟩ := hR.at_ hin
      unfold str at k0
      by_cases hs : r.name = s
      · have hf := rfind_some hr hs hno.out
        have hb : (r.name == s) = true := by rw [hs]; exact beq_self_eq_true s
        replace hf := hide hf
        replace hr := hide hr
        replace hs := hide hs
        go_wp2_with fail
        go_ret2
        rw [hf.out]
        exact ⟨rfl, hE⟩
      · have hb : (r.name == s) = false := beq_eq_false_iff_ne.2 hs
        have hno2 : Hid (∀ j r, j < i + 1 → R[j]? = some r → r.name ≠ s) := hide (by
          intro j x hj hx
          by_cases hji : j = i
          · subst hji
            rw [hr] at hx
            cases hx
            exact hs
          · exact hno.out j x (by omega) hx)
        replace hr := hide hr
        go_wp2_with fail
        go_roundw
        case rel => exact ⟨i + 1, by go_num, by omega, hno2, trivial⟩
        case measure => simp [intOf]; omega
    · have hf : rfind R s = none := rfind_none (by rw [← hlen.out]; exact fun j r hj hr => hno.out j r (by omega) hr)
      replace hf := hide hf
      go_wp2_with fail
      go_ret2
      rw [hf.out]
      exact ⟨rfl, hE⟩
end Go.Proofs.YtaoolpnnomhnoaaGreatDoor

/- loggiaref06: Named, less. -/
namespace Go.Proofs.YtaoolpnnomhnoaaGreatDoor
open Go.RowKit Go.Maps

set_option maxRecDepth 100000 in
set_option maxHeartbeats 2000000 in
theorem rnamed_any (s : List UInt8) (w : World) (hs : s.length ≤ 9223372036854775807) :
    Calls Tryz.prog 73 #[str s] w fun e w' => e = .returned (.bool (namedM s)) ∧ w' = w := by
  unfold str
  obtain ⟨n, hn⟩ : ∃ n, n = s.length := ⟨_, rfl⟩
  have hsz : (⟨s.toArray⟩ : ByteArray).size = n := by rw [hn]; exact ByteArray.size_mk_toArray s
  by_cases h1 : n < 1
  · have hm : namedM s = false := by unfold namedM; rw [← hn]; simp; omega
    rw [hm]
    replace hn := hide hn
    go_enter Tryz.func73, Tryz.ntmps73
    go_wp2_with fail
    go_ret
    exact ⟨rfl, rfl⟩
  · by_cases h2 : 64 < n
    · have hm : namedM s = false := by unfold namedM; rw [← hn]; simp; omega
      rw [hm]
      replace hn := hide hn
      go_enter Tryz.func73, Tryz.ntmps73
      go_wp2_with fail
      go_ret
      exact ⟨rfl, rfl⟩
    · have hm : namedM s = s.all okb := by unfold namedM; rw [← hn]; simp; omega
      rw [hm]
      replace hn := hide hn
      go_enter Tryz.func73, Tryz.ntmps73
      go_wp2_with fail
      go_loopw [3] (fun s3 wr => ∃ i : Nat, s3 = .int .i64 i ∧ i ≤ n ∧ Hid (s.all okb = (s.drop i).all okb) ∧ wr = w) (fun s3 _ => n - (intOf s3).toNat)
      case atStart => exact ⟨0, rfl, by omega, hide rfl, rfl⟩
      case round =>
        obtain ⟨i, rfl, hi, hall, rfl⟩ := hrel
        by_cases hin : i < n
        · go_upto_region 6 with (fail)
          have hil : i < s.length := by rw [← hn.out]; exact hin
          obtain ⟨x, hx⟩ : ∃ x, x = s[i] := ⟨_, rfl⟩
          have hdr : (s.drop i).all okb = (okb x && (s.drop (i + 1)).all okb) := by rw [List.drop_eq_getElem_cons hil, List.all_cons, hx]
          obtain ⟨c, hc⟩ : ∃ c, c = x.toNat := ⟨_, rfl⟩
          have hcx : ((⟨s.toArray⟩ : ByteArray)[i]'(by rw [hsz]; exact hin)).toNat = c := by rw [hc, hx]; rfl
          have hc2 : c < 256 := by rw [hc]; exact x.toNat_lt
          have hcl : c < 45 ∨ c = 45 ∨ c = 46 ∨ c = 47 ∨ (48 ≤ c ∧ c ≤ 57) ∨ (58 ≤ c ∧ c ≤ 96) ∨ (97 ≤ c ∧ c ≤ 122) ∨ 122 < c := by omega
          have hok : okb x = ((97 ≤ c && c ≤ 122) || (48 ≤ c && c ≤ 57) || c == 45 || c == 46) := by unfold okb; rw [← hc]
          rw [hok] at hdr
          replace hdr := hide hdr
          replace hx := hide hx
          replace hc := hide hc
          clear hok
          have q1 : Hid (c ≠ 45 → ((c : Int) == 45) = false) := hide (fun h => beq_eq_false_iff_ne.2 (by omega))
          have q2 : Hid (c ≠ 46 → ((c : Int) == 46) = false) := hide (fun h => beq_eq_false_iff_ne.2 (by omega))
          rcases hcl with h | h | h | h | ⟨h, h'⟩ | ⟨h, h'⟩ | ⟨h, h'⟩ | h
          all_goals
            first
            | (have hd2 : Hid (s.all okb = (s.drop (i + 1)).all okb) := hide (by rw [hall.out, hdr.out, show ((97 ≤ c && c ≤ 122) || (48 ≤ c && c ≤ 57) || c == 45 || c == 46) = true by (simp only [Bool.or_eq_true, Bool.and_eq_true, decide_eq_true_eq, beq_iff_eq]; omega)]; exact Bool.true_and _)
               clear hdr
               try have g1 : c < 97 := by omega
               try have g2 : 97 ≤ c := by omega
               try have g3 : c ≤ 122 := by omega
               try have g4 : 122 < c := by omega
               try have g5 : c < 48 := by omega
               try have g6 : 48 ≤ c := by omega
               try have g7 : c ≤ 57 := by omega
               try have g8 : 57 < c := by omega
               try have g9 : decide ((c : Int) ≤ 57) = false := decide_eq_false (by omega)
               try have g0 : decide ((c : Int) ≤ 122) = false := decide_eq_false (by omega)
               try have q3 := q1.out (by omega)
               try have q4 := q2.out (by omega)
               try subst h
               go_wp2_with fail
               all_goals
                 go_roundw
                 case rel => exact ⟨i + 1, by go_num, by omega, hd2, trivial⟩
                 case measure => simp [intOf]; omega)
            | (have hd2 : Hid (s.all okb = false) := hide (by rw [hall.out, hdr.out, show ((97 ≤ c && c ≤ 122) || (48 ≤ c && c ≤ 57) || c == 45 || c == 46) = false by (rw [← Bool.not_eq_true]; simp only [Bool.or_eq_true, Bool.and_eq_true, decide_eq_true_eq, beq_iff_eq]; omega)]; exact Bool.false_and _)
               clear hdr
               try have g1 : c < 97 := by omega
               try have g2 : 97 ≤ c := by omega
               try have g3 : c ≤ 122 := by omega
               try have g4 : 122 < c := by omega
               try have g5 : c < 48 := by omega
               try have g6 : 48 ≤ c := by omega
               try have g7 : c ≤ 57 := by omega
               try have g8 : 57 < c := by omega
               try have g9 : decide ((c : Int) ≤ 57) = false := decide_eq_false (by omega)
               try have g0 : decide ((c : Int) ≤ 122) = false := decide_eq_false (by omega)
               try have q3 := q1.out (by omega)
               try have q4 := q2.out (by omega)
               try subst h
               go_wp2_with fail
               all_goals
                 go_ret
                 rw [hd2.out]
                 exact ⟨rfl, rfl⟩)
        · have hd2 : s.all okb = true := by
            rw [hall.out, List.drop_eq_nil_of_le (by rw [← hn.out]; omega)]
            rfl
          replace hd2 := hide hd2
          go_wp2_with fail
          go_ret
          rw [hd2.out]
          exact ⟨rfl, rfl⟩
end Go.Proofs.YtaoolpnnomhnoaaGreatDoor

