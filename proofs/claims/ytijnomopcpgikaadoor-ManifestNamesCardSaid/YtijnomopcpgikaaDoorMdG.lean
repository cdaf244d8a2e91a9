/- loggiaref16: Decode. -/
import Derived.Test.YtijnomopcpgikaaDoorMdE
import Derived.Test.YtijnomopcpgikaaDoorMdF
import Derived.Test.YtijnomopcpgikaaDoorMeB
namespace Go.Proofs.YtijnomopcpgikaaDoor
open Go.RowKit

theorem decM_e1 {l : List UInt8} {x : Nat} (h : getAll 5 (l.drop 4) = .error x) : decM l = none := by
  unfold decM getM
  rw [h]
theorem decM_e2 {l r : List UInt8} {ns : List Int} {x : Nat} (h : getAll 5 (l.drop 4) = .ok (ns, r)) (h2 : getV 0 r = .error x) : decM l = none := by
  unfold decM getM
  rw [h]
  simp only
  rw [h2]
theorem decM_e3 {l r r2 : List UInt8} {ns : List Int} {v : Nat} (h : getAll 5 (l.drop 4) = .ok (ns, r)) (h2 : getV 0 r = .ok (v, r2)) (h3 : 512 < v) : decM l = none := by
  unfold decM getM
  rw [h]
  simp only
  rw [h2]
  simp only
  rw [if_pos h3]
theorem decM_e4 {l r r2 : List UInt8} {ns : List Int} {v x : Nat} (h : getAll 5 (l.drop 4) = .ok (ns, r)) (h2 : getV 0 r = .ok (v, r2)) (h3 : ¬ 512 < v) (h4 : getPts v r2 = .error x) : decM l = none := by
  unfold decM getM
  rw [h]
  simp only
  rw [h2]
  simp only
  rw [if_neg h3, h4]
theorem decM_go {l r r2 r3 : List UInt8} {ns : List Int} {ps : List Pt} {v : Nat} (h : getAll 5 (l.drop 4) = .ok (ns, r)) (h2 : getV 0 r = .ok (v, r2)) (h3 : ¬ 512 < v) (h4 : getPts v r2 = .ok (ps, r3)) : decM l = if checkP (mkMf ns ps) = 0 ∧ encM (mkMf ns ps) = l then some (mkMf ns ps) else none := by
  unfold decM getM
  rw [h]
  simp only
  rw [h2]
  simp only
  rw [if_neg h3, h4]
set_option maxRecDepth 100000 in
set_option maxHeartbeats 4000000 in
theorem rdecode_any (A : Option Addr) (n c : Nat) (l : List UInt8) (w : World) (h : In8 w A n c l) (hle : n ≤ 1000000000) :
    Calls Tryd.prog 11 #[.slice A n c] w fun e w' => DecP w (decM l) e w' := by
  have hl := h.len
  obtain ⟨W, hW⟩ : ∃ W, W = w.alloc (.cells #[.slice none 0 0, .int .i64 0, .int .i64 0, .int .i64 0, .int .i64 0, .int .i64 0] 24) := ⟨_, rfl⟩
  have hz0 : Row W w.heap.size 24 #[.slice none 0 0, .int .i64 0, .int .i64 0, .int .i64 0, .int .i64 0, .int .i64 0] := by rw [hW]; exact Row.new w _ _
  have hE0 : Ext w W := by rw [hW]; exact (Ext.refl w).alloc _
  by_cases h8 : n < 4
  · have hd := hide (decM_short (b := l) (by omega))
    rw [hW] at hE0
    clear hl h hz0 hW
    replace hE0 := hide hE0
    go_enter Tryd.func11, Tryd.ntmps11
    go_wp2_with fail
    exact bodyPost_ret (v := .tuple #[nilMf.val none 0, .int .i64 160]) (by simp [results, Tryd.results11, go_sem, nilMf, Mf.val]) rfl (by rw [hd.out]; exact ⟨hE0.out, rfl⟩)
  · obtain ⟨A1, c1, hsub, hin⟩ := h.from_ (fr := 4) (by omega) (z := 4) rfl
    have hga := rgetAll_any A1 (n - 4) c1 5 (l.drop 4) w W hin hE0 (by omega) (by omega)
    replace hW := hide hW
    replace h := hide h
    have hl' := hide hl
    cases hr : getAll 5 (l.drop 4) with
    | error x =>
      have hdn := hide (decM_e1 hr)
      rw [hr] at hga
      replace hga := hide hga
      clear hr hl hin
      go_enter Tryd.func11, Tryd.ntmps11
      go_wp2_with fail
      rw [← hW.out]
      refine hga.out.mono ?_
      rintro e w1 ⟨hE1, rfl, hx⟩
      have hx0 : ((x : Int) != 0) = true := by simp; omega
      have hz1 := hide (hz0.ext hE1)
      have hEw1 := hide (hE0.trans hE1)
      have t0 : w1.cell? ⟨w.heap.size, 0, none⟩ = some (.slice none 0 0) := hz1.out.cell 0 rfl
      have t1 : w1.cell? ⟨w.heap.size, 1, none⟩ = some (.int .i64 0) := hz1.out.cell 1 rfl
      have t2 : w1.cell? ⟨w.heap.size, 2, none⟩ = some (.int .i64 0) := hz1.out.cell 2 rfl
      have t3 : w1.cell? ⟨w.heap.size, 3, none⟩ = some (.int .i64 0) := hz1.out.cell 3 rfl
      have t4 : w1.cell? ⟨w.heap.size, 4, none⟩ = some (.int .i64 0) := hz1.out.cell 4 rfl
      have t5 : w1.cell? ⟨w.heap.size, 5, none⟩ = some (.int .i64 0) := hz1.out.cell 5 rfl
      have tf := fun i => hz1.out.free i
      have tl := hz1.out.lt
      clear hx
      go_wp2_with fail
      obtain ⟨w6, hw6⟩ : ∃ w6, w6 = setM w1 w.heap.size nilMf none 0 := ⟨_, rfl⟩
      have hk6 := setM_row hz1.out nilMf none 0
      rw [← hw6] at hk6
      have hE6 := setM_ext hEw1.out (Nat.le_refl _) nilMf none 0
      rw [← hw6] at hE6
      simp only [setM, nilMf, List.length_nil] at hw6
      rw [← hw6]
      have k0 : w6.cell? ⟨w.heap.size, 0, none⟩ = some (.slice none 0 0) := hk6.cell 0 rfl
      have k1 : w6.cell? ⟨w.heap.size, 1, none⟩ = some (.int .i64 0) := hk6.cell 1 rfl
      have k2 : w6.cell? ⟨w.heap.size, 2, none⟩ = some (.int .i64 0) := hk6.cell 2 rfl
      have k3 : w6.cell? ⟨w.heap.size, 3, none⟩ = some (.int .i64 0) := hk6.cell 3 rfl
      have k4 : w6.cell? ⟨w.heap.size, 4, none⟩ = some (.int .i64 0) := hk6.cell 4 rfl
      have k5 : w6.cell? ⟨w.heap.size, 5, none⟩ = some (.int .i64 0) := hk6.cell 5 rfl
      clear hw6 hk6
      exact bodyPost_ret (v := .tuple #[nilMf.val none 0, .int .i64 160]) (by simp [results, Tryd.results11, go_sem, nilMf, Mf.val, k0, k1, k2, k3, k4, k5]) rfl (by rw [hdn.out]; exact ⟨hE6, rfl⟩)
    | ok p =>
      obtain ⟨ns, r⟩ := p
      obtain ⟨hn5, hns, q, hq⟩ := getAll_len 5 (l.drop 4) ns r hr
      have hrl : r.length ≤ 1000000000 := by
        have := congrArg List.length hq
        rw [List.length_drop, List.length_append] at this
        omega
      obtain ⟨a0, a1, a2, a3, a4, rfl⟩ := five_of hn5
      rw [hr] at hga
      replace hga := hide hga
      replace hns := hide hns
      clear hl hin hq hn5
      cases hv : getV 0 r with
      | error x =>
        have hdn := hide (decM_e2 hr hv)
        have hx := getV_err r 0 x hv
        have hx0 : ((x : Int) != 0) = true := by simp; omega
        have hgv := hide (fun A c w1 (hi : In8 w A r.length c r) (hE : Ext w w1) => by have := rget_any A r.length c r w w1 hi hE hrl; rw [hv] at this; exact this)
        clear hr hx hv
        go_enter Tryd.func11, Tryd.ntmps11
        go_wp2_with fail
        rw [← hW.out]
        refine hga.out.mono ?_
        rintro e w1 ⟨hE1, A3, c4, B, cb, rfl, hbu, hin3⟩
        have hz1 := hz0.ext hE1
        have hEw1 := hE0.trans hE1
        go_wp2_with fail
        refine (hgv.out _ _ _ hin3 hEw1).mono ?_
        rintro e w2 ⟨hE2, rfl⟩
        have hz2 := hide (hz1.ext hE2)
        have hEw2 := hide (hEw1.trans hE2)
        have t0 : w2.cell? ⟨w.heap.size, 0, none⟩ = some (.slice none 0 0) := hz2.out.cell 0 rfl
        have t1 : w2.cell? ⟨w.heap.size, 1, none⟩ = some (.int .i64 0) := hz2.out.cell 1 rfl
        have t2 : w2.cell? ⟨w.heap.size, 2, none⟩ = some (.int .i64 0) := hz2.out.cell 2 rfl
        have t3 : w2.cell? ⟨w.heap.size, 3, none⟩ = some (.int .i64 0) := hz2.out.cell 3 rfl
        have t4 : w2.cell? ⟨w.heap.size, 4, none⟩ = some (.int .i64 0) := hz2.out.cell 4 rfl
        have t5 : w2.cell? ⟨w.heap.size, 5, none⟩ = some (.int .i64 0) := hz2.out.cell 5 rfl
        have tf := fun i => hz2.out.free i
        have tl := hz2.out.lt
        clear hz1 hEw1
        go_wp2_with fail
        obtain ⟨w6, hw6⟩ : ∃ w6, w6 = setM w2 w.heap.size nilMf none 0 := ⟨_, rfl⟩
        have hk6 := setM_row hz2.out nilMf none 0
        rw [← hw6] at hk6
        have hE6 := setM_ext hEw2.out (Nat.le_refl _) nilMf none 0
        rw [← hw6] at hE6
        simp only [setM, nilMf, List.length_nil] at hw6
        rw [← hw6]
        have k0 : w6.cell? ⟨w.heap.size, 0, none⟩ = some (.slice none 0 0) := hk6.cell 0 rfl
        have k1 : w6.cell? ⟨w.heap.size, 1, none⟩ = some (.int .i64 0) := hk6.cell 1 rfl
        have k2 : w6.cell? ⟨w.heap.size, 2, none⟩ = some (.int .i64 0) := hk6.cell 2 rfl
        have k3 : w6.cell? ⟨w.heap.size, 3, none⟩ = some (.int .i64 0) := hk6.cell 3 rfl
        have k4 : w6.cell? ⟨w.heap.size, 4, none⟩ = some (.int .i64 0) := hk6.cell 4 rfl
        have k5 : w6.cell? ⟨w.heap.size, 5, none⟩ = some (.int .i64 0) := hk6.cell 5 rfl
        clear hw6 hk6
        exact bodyPost_ret (v := .tuple #[nilMf.val none 0, .int .i64 160]) (by simp [results, Tryd.results11, go_sem, nilMf, Mf.val, k0, k1, k2, k3, k4, k5]) rfl (by rw [hdn.out]; exact ⟨hE6, rfl⟩)
      | ok p =>
        obtain ⟨v, r2⟩ := p
        have hv64 := getV_lt64 hv
        have hr2 : r2.length ≤ 1000000000 := by
          obtain ⟨_, _, q, hq, _⟩ := getV_lt r 0 v r2 hv
          rw [hq, List.length_append] at hrl
          omega
        have hgv := hide (fun A c w1 (hi : In8 w A r.length c r) (hE : Ext w w1) => by have := rget_any A r.length c r w w1 hi hE hrl; rw [hv] at this; exact this)
        by_cases h5 : 512 < v
        · have hdn := hide (decM_e3 hr hv h5)
          clear hr hv
          go_enter Tryd.func11, Tryd.ntmps11
          go_wp2_with fail
          rw [← hW.out]
          refine hga.out.mono ?_
          rintro e w1 ⟨hE1, A3, c4, B, cb, rfl, hbu, hin3⟩
          have hz1 := hz0.ext hE1
          have hEw1 := hE0.trans hE1
          go_wp2_with fail
          refine (hgv.out _ _ _ hin3 hEw1).mono ?_
          rintro e w2 ⟨hE2, A4, c5, rfl, hin4⟩
          have hz2 := hide (hz1.ext hE2)
          have hEw2 := hide (hEw1.trans hE2)
          have t0 : w2.cell? ⟨w.heap.size, 0, none⟩ = some (.slice none 0 0) := hz2.out.cell 0 rfl
          have t1 : w2.cell? ⟨w.heap.size, 1, none⟩ = some (.int .i64 0) := hz2.out.cell 1 rfl
          have t2 : w2.cell? ⟨w.heap.size, 2, none⟩ = some (.int .i64 0) := hz2.out.cell 2 rfl
          have t3 : w2.cell? ⟨w.heap.size, 3, none⟩ = some (.int .i64 0) := hz2.out.cell 3 rfl
          have t4 : w2.cell? ⟨w.heap.size, 4, none⟩ = some (.int .i64 0) := hz2.out.cell 4 rfl
          have t5 : w2.cell? ⟨w.heap.size, 5, none⟩ = some (.int .i64 0) := hz2.out.cell 5 rfl
          have tf := fun i => hz2.out.free i
          have tl := hz2.out.lt
          clear hz1 hEw1
          go_wp2_with fail
          obtain ⟨w6, hw6⟩ : ∃ w6, w6 = setM w2 w.heap.size nilMf none 0 := ⟨_, rfl⟩
          have hk6 := setM_row hz2.out nilMf none 0
          rw [← hw6] at hk6
          have hE6 := setM_ext hEw2.out (Nat.le_refl _) nilMf none 0
          rw [← hw6] at hE6
          simp only [setM, nilMf, List.length_nil] at hw6
          rw [← hw6]
          have k0 : w6.cell? ⟨w.heap.size, 0, none⟩ = some (.slice none 0 0) := hk6.cell 0 rfl
          have k1 : w6.cell? ⟨w.heap.size, 1, none⟩ = some (.int .i64 0) := hk6.cell 1 rfl
          have k2 : w6.cell? ⟨w.heap.size, 2, none⟩ = some (.int .i64 0) := hk6.cell 2 rfl
          have k3 : w6.cell? ⟨w.heap.size, 3, none⟩ = some (.int .i64 0) := hk6.cell 3 rfl
          have k4 : w6.cell? ⟨w.heap.size, 4, none⟩ = some (.int .i64 0) := hk6.cell 4 rfl
          have k5 : w6.cell? ⟨w.heap.size, 5, none⟩ = some (.int .i64 0) := hk6.cell 5 rfl
          clear hw6 hk6
          exact bodyPost_ret (v := .tuple #[nilMf.val none 0, .int .i64 160]) (by simp [results, Tryd.results11, go_sem, nilMf, Mf.val, k0, k1, k2, k3, k4, k5]) rfl (by rw [hdn.out]; exact ⟨hE6, rfl⟩)
        · cases hp : getPts v r2 with
          | error x =>
            have hdn := hide (decM_e4 hr hv h5 hp)
            have hpa := hide (fun A c w1 (hi : In8 w A r2.length c r2) (hE : Ext w w1) => by have := rparts_any A r2.length c v r2 w w1 hi hE hr2 (by omega); rw [hp] at this; exact this)
            have hv5 : v ≤ 512 := by omega
            clear hr hv hp
            go_enter Tryd.func11, Tryd.ntmps11
            go_wp2_with fail
            rw [← hW.out]
            refine hga.out.mono ?_
            rintro e w1 ⟨hE1, A3, c4, B, cb, rfl, hbu, hin3⟩
            have hz1 := hz0.ext hE1
            have hEw1 := hE0.trans hE1
            go_wp2_with fail
            refine (hgv.out _ _ _ hin3 hEw1).mono ?_
            rintro e w2 ⟨hE2, A4, c5, rfl, hin4⟩
            have hz2 := hz1.ext hE2
            have hEw2 := hEw1.trans hE2
            go_wp2_with fail
            refine (hpa.out _ _ _ hin4 hEw2).mono ?_
            rintro e w3 ⟨hE3, rfl⟩
            have hz3 := hide (hz2.ext hE3)
            have hEw3 := hide (hEw2.trans hE3)
            have t0 : w3.cell? ⟨w.heap.size, 0, none⟩ = some (.slice none 0 0) := hz3.out.cell 0 rfl
            have t1 : w3.cell? ⟨w.heap.size, 1, none⟩ = some (.int .i64 0) := hz3.out.cell 1 rfl
            have t2 : w3.cell? ⟨w.heap.size, 2, none⟩ = some (.int .i64 0) := hz3.out.cell 2 rfl
            have t3 : w3.cell? ⟨w.heap.size, 3, none⟩ = some (.int .i64 0) := hz3.out.cell 3 rfl
            have t4 : w3.cell? ⟨w.heap.size, 4, none⟩ = some (.int .i64 0) := hz3.out.cell 4 rfl
            have t5 : w3.cell? ⟨w.heap.size, 5, none⟩ = some (.int .i64 0) := hz3.out.cell 5 rfl
            have tf := fun i => hz3.out.free i
            have tl := hz3.out.lt
            clear hz1 hEw1 hz2 hEw2
            go_wp2_with fail
            obtain ⟨w6, hw6⟩ : ∃ w6, w6 = setM w3 w.heap.size nilMf none 0 := ⟨_, rfl⟩
            have hk6 := setM_row hz3.out nilMf none 0
            rw [← hw6] at hk6
            have hE6 := setM_ext hEw3.out (Nat.le_refl _) nilMf none 0
            rw [← hw6] at hE6
            simp only [setM, nilMf, List.length_nil] at hw6
            rw [← hw6]
            have k0 : w6.cell? ⟨w.heap.size, 0, none⟩ = some (.slice none 0 0) := hk6.cell 0 rfl
            have k1 : w6.cell? ⟨w.heap.size, 1, none⟩ = some (.int .i64 0) := hk6.cell 1 rfl
            have k2 : w6.cell? ⟨w.heap.size, 2, none⟩ = some (.int .i64 0) := hk6.cell 2 rfl
            have k3 : w6.cell? ⟨w.heap.size, 3, none⟩ = some (.int .i64 0) := hk6.cell 3 rfl
            have k4 : w6.cell? ⟨w.heap.size, 4, none⟩ = some (.int .i64 0) := hk6.cell 4 rfl
            have k5 : w6.cell? ⟨w.heap.size, 5, none⟩ = some (.int .i64 0) := hk6.cell 5 rfl
            clear hw6 hk6
            exact bodyPost_ret (v := .tuple #[nilMf.val none 0, .int .i64 160]) (by simp [results, Tryd.results11, go_sem, nilMf, Mf.val, k0, k1, k2, k3, k4, k5]) rfl (by rw [hdn.out]; exact ⟨hE6, rfl⟩)
          | ok p =>
            obtain ⟨ps, r3⟩ := p
            have hdg := hide (decM_go hr hv h5 hp)
            obtain ⟨hpl, hpo⟩ := getPts_in v r2 ps r3 hp
            have hpa := hide (fun A c w1 (hi : In8 w A r2.length c r2) (hE : Ext w w1) => by have := rparts_any A r2.length c v r2 w w1 hi hE hr2 (by omega); rw [hp] at this; exact this)
            have hv5 : v ≤ 512 := by omega
            subst hpl
            replace hpo := hide hpo
            clear hr hv hp
            go_enter Tryd.func11, Tryd.ntmps11
            go_wp2_with fail
            rw [← hW.out]
            refine hga.out.mono ?_
            rintro e w1 ⟨hE1, A3, c4, B, cb, rfl, hbu, hin3⟩
            have hz1 := hz0.ext hE1
            have hEw1 := hE0.trans hE1
            go_wp2_with fail
            refine (hgv.out _ _ _ hin3 hEw1).mono ?_
            rintro e w2 ⟨hE2, A4, c5, rfl, hin4⟩
            have hz2 := hz1.ext hE2
            have hEw2 := hEw1.trans hE2
            go_wp2_with fail
            refine (hpa.out _ _ _ hin4 hEw2).mono ?_
            rintro e w3 ⟨hE3, P, cp, rfl, hown⟩
            have hz20 := hz2.lt
            have hz3 := hide (hz2.ext hE3)
            have hEw3 := hide (hEw2.trans hE3)
            obtain ⟨g, o, rfl, hcc⟩ := hbu.cells.at_ (by simp)
            have hE13 := hE2.trans hE3
            have z0 : w3.cell? ⟨g, o, none⟩ = some (.int .i64 a0) := hE13.cell (hcc 0 _ rfl)
            have z1 : w3.cell? ⟨g, o + 1, none⟩ = some (.int .i64 a1) := hE13.cell (hcc 1 _ rfl)
            have z2 : w3.cell? ⟨g, o + 2, none⟩ = some (.int .i64 a2) := hE13.cell (hcc 2 _ rfl)
            have z3 : w3.cell? ⟨g, o + 3, none⟩ = some (.int .i64 a3) := hE13.cell (hcc 3 _ rfl)
            have z4 : w3.cell? ⟨g, o + 4, none⟩ = some (.int .i64 a4) := hE13.cell (hcc 4 _ rfl)
            clear hz1 hEw1 hz2 hEw2 hcc hbu hE13
            go_wp2_with fail
            refine wp_region_text follows (by kernel_rfl) (by kernel_rfl) (fun K hK => ?_)
            go_wp2_with fail
            refine ⟨by kernel_rfl, ?_⟩
            go_wp2_with fail
            obtain ⟨w4, hw4⟩ : ∃ w4, w4 = (w3.alloc (.cells #[.slice P ps.length cp, .int .i64 a0, .int .i64 a1, .int .i64 a2, .int .i64 a3, .int .i64 a4] 24)).drew := ⟨_, rfl⟩
            have hE34 : Ext w3 w4 := by rw [hw4]; exact ((Ext.refl w3).alloc _).drew
            have hmr : Row w4 w3.heap.size 24 #[.slice P ps.length cp, .int .i64 a0, .int .i64 a1, .int .i64 a2, .int .i64 a3, .int .i64 a4] := by rw [hw4]; exact (Row.new w3 _ _).drew
            rw [← hw4]
            have hown4 := hE34.owns hown
            have hOk : (mkMf [a0, a1, a2, a3, a4] ps).Ok w4 w4.heap.size P cp := by
              refine ⟨owns_parts hown4 hpo.out (by show ps.length ≤ _; omega), ?_, ?_, ?_, ?_, ?_⟩
              · exact hns.out a0 (by simp)
              · exact hns.out a1 (by simp)
              · exact hns.out a2 (by simp)
              · exact hns.out a3 (by simp)
              · exact hns.out a4 (by simp)
            have hval : (mkMf [a0, a1, a2, a3, a4] ps).val P cp = .agg #[.slice P ps.length cp, .int .i64 a0, .int .i64 a1, .int .i64 a2, .int .i64 a3, .int .i64 a4] := rfl
            have hcs : (mkMf [a0, a1, a2, a3, a4] ps).cells P cp = #[.slice P ps.length cp, .int .i64 a0, .int .i64 a1, .int .i64 a2, .int .i64 a3, .int .i64 a4] := rfl
            have hfl : (mkMf [a0, a1, a2, a3, a4] ps).ps = ps ∧ (mkMf [a0, a1, a2, a3, a4] ps).floor = a0 ∧ (mkMf [a0, a1, a2, a3, a4] ps).done = a1 ∧ (mkMf [a0, a1, a2, a3, a4] ps).log = a2 ∧ (mkMf [a0, a1, a2, a3, a4] ps).next = a3 ∧ (mkMf [a0, a1, a2, a3, a4] ps).now = a4 := ⟨rfl, rfl, rfl, rfl, rfl, rfl⟩
            have hen := rencode_any w4.heap.size _ P cp w4 hOk
            rw [hval] at hen
            obtain ⟨m, hm⟩ : ∃ m, m = mkMf [a0, a1, a2, a3, a4] ps := ⟨_, rfl⟩
            rw [← hm] at hen hdg hOk hval hcs hfl
            have hnw := hide (show (Value.slice P ps.length cp).ownBlock ≠ some w.heap.size from fun e => by
              obtain ⟨_, _, hb⟩ := owns_row hown e
              have := hz3.out.lt
              have hb2 := hz20
              omega)
            have hown' := hide hown
            replace hen := hide hen
            replace hOk := hide hOk
            replace hval := hide hval
            replace hcs := hide hcs
            replace hfl := hide hfl
            replace hmr := hide hmr
            replace hE34 := hide hE34
            clear hw4 hm hown hown4 z0 z1 z2 z3 z4
            refine hen.out.mono ?_
            rintro e w5 ⟨hE5, hyes, hno⟩
            have hE35 := hide (hE34.out.trans hE5)
            have hz5 := hide (hz3.out.ext hE35.out)
            have hEw5 := hide (hEw3.out.trans hE35.out)
            have hm5 := hmr.out.ext hE5
            have v0 : w5.cell? ⟨w3.heap.size, 0, none⟩ = some (.slice P ps.length cp) := hm5.cell 0 rfl
            have v1 : w5.cell? ⟨w3.heap.size, 1, none⟩ = some (.int .i64 a0) := hm5.cell 1 rfl
            have v2 : w5.cell? ⟨w3.heap.size, 2, none⟩ = some (.int .i64 a1) := hm5.cell 2 rfl
            have v3 : w5.cell? ⟨w3.heap.size, 3, none⟩ = some (.int .i64 a2) := hm5.cell 3 rfl
            have v4 : w5.cell? ⟨w3.heap.size, 4, none⟩ = some (.int .i64 a3) := hm5.cell 4 rfl
            have v5 : w5.cell? ⟨w3.heap.size, 5, none⟩ = some (.int .i64 a4) := hm5.cell 5 rfl
            have t0 : w5.cell? ⟨w.heap.size, 0, none⟩ = some (.slice none 0 0) := hz5.out.cell 0 rfl
            have t1 : w5.cell? ⟨w.heap.size, 1, none⟩ = some (.int .i64 0) := hz5.out.cell 1 rfl
            have t2 : w5.cell? ⟨w.heap.size, 2, none⟩ = some (.int .i64 0) := hz5.out.cell 2 rfl
            have t3 : w5.cell? ⟨w.heap.size, 3, none⟩ = some (.int .i64 0) := hz5.out.cell 3 rfl
            have t4 : w5.cell? ⟨w.heap.size, 4, none⟩ = some (.int .i64 0) := hz5.out.cell 4 rfl
            have t5 : w5.cell? ⟨w.heap.size, 5, none⟩ = some (.int .i64 0) := hz5.out.cell 5 rfl
            have tf := fun i => hz5.out.free i
            have tl := hz5.out.lt
            replace hyes := hide hyes
            replace hno := hide hno
            clear hm5
            by_cases hc : checkP m = 0
            · obtain ⟨A5, c6, rfl, hb5⟩ := hyes.out hc
              have hs1 := run_str hb5.cells (encM m).length c6 rfl
              have hs2 := run_str ((h.out.ext hEw5.out).bytes) n c hl'.out
              by_cases he : encM m = l
              · have hdn : decM l = some m := by rw [hdg.out]; simp only [hc, he, and_self, if_true]
                replace hdn := hide hdn
                have hbq : (encM m == l) = true := by rw [he]; simp
                obtain ⟨k, hk⟩ : ∃ k, k = (encM m).length := ⟨_, rfl⟩
                rw [← hk] at hs1 ⊢
                clear hk hc he hdg
                go_wp2_with fail
                obtain ⟨w6, hw6⟩ : ∃ w6, w6 = setM w5 w.heap.size m P cp := ⟨_, rfl⟩
                have hk6 := setM_row hz5.out m P cp
                rw [← hw6, hcs.out] at hk6
                have hE6 := setM_ext hEw5.out (Nat.le_refl _) m P cp
                rw [← hw6] at hE6
                have ho6 := setM_owns (hE35.out.owns hown'.out) hnw.out m P cp
                rw [← hw6] at ho6
                unfold setM at hw6
                rw [hfl.out.1, hfl.out.2.1, hfl.out.2.2.1, hfl.out.2.2.2.1, hfl.out.2.2.2.2.1, hfl.out.2.2.2.2.2] at hw6
                rw [← hw6]
                have k0 : w6.cell? ⟨w.heap.size, 0, none⟩ = some (.slice P ps.length cp) := hk6.cell 0 rfl
                have k1 : w6.cell? ⟨w.heap.size, 1, none⟩ = some (.int .i64 a0) := hk6.cell 1 rfl
                have k2 : w6.cell? ⟨w.heap.size, 2, none⟩ = some (.int .i64 a1) := hk6.cell 2 rfl
                have k3 : w6.cell? ⟨w.heap.size, 3, none⟩ = some (.int .i64 a2) := hk6.cell 3 rfl
                have k4 : w6.cell? ⟨w.heap.size, 4, none⟩ = some (.int .i64 a3) := hk6.cell 4 rfl
                have k5 : w6.cell? ⟨w.heap.size, 5, none⟩ = some (.int .i64 a4) := hk6.cell 5 rfl
                have hPS := owns_parts ho6 hpo.out (by omega)
                have hok6 : m.Ok w6 w6.heap.size P cp := ⟨by rw [hfl.out.1]; exact hPS, hOk.out.floor, hOk.out.done, hOk.out.log, hOk.out.next, hOk.out.now⟩
                clear hw6 hk6 ho6 hPS
                exact bodyPost_ret (v := .tuple #[m.val P cp, .int .i64 0]) (by rw [hval.out]; simp [results, Tryd.results11, go_sem, k0, k1, k2, k3, k4, k5]) rfl (by rw [hdn.out]; exact ⟨hE6, P, cp, rfl, hok6⟩)
              · have hdn : decM l = none := by rw [hdg.out]; simp only [hc, he, and_false, if_false]
                replace hdn := hide hdn
                have hbq : (encM m == l) = false := by simpa using he
                obtain ⟨k, hk⟩ : ∃ k, k = (encM m).length := ⟨_, rfl⟩
                rw [← hk] at hs1 ⊢
                clear hk hc he hdg
                go_wp2_with fail
                obtain ⟨w6, hw6⟩ : ∃ w6, w6 = setM w5 w.heap.size nilMf none 0 := ⟨_, rfl⟩
                have hk6 := setM_row hz5.out nilMf none 0
                rw [← hw6] at hk6
                have hE6 := setM_ext hEw5.out (Nat.le_refl _) nilMf none 0
                rw [← hw6] at hE6
                simp only [setM, nilMf, List.length_nil] at hw6
                rw [← hw6]
                have k0 : w6.cell? ⟨w.heap.size, 0, none⟩ = some (.slice none 0 0) := hk6.cell 0 rfl
                have k1 : w6.cell? ⟨w.heap.size, 1, none⟩ = some (.int .i64 0) := hk6.cell 1 rfl
                have k2 : w6.cell? ⟨w.heap.size, 2, none⟩ = some (.int .i64 0) := hk6.cell 2 rfl
                have k3 : w6.cell? ⟨w.heap.size, 3, none⟩ = some (.int .i64 0) := hk6.cell 3 rfl
                have k4 : w6.cell? ⟨w.heap.size, 4, none⟩ = some (.int .i64 0) := hk6.cell 4 rfl
                have k5 : w6.cell? ⟨w.heap.size, 5, none⟩ = some (.int .i64 0) := hk6.cell 5 rfl
                clear hw6 hk6
                exact bodyPost_ret (v := .tuple #[nilMf.val none 0, .int .i64 160]) (by simp [results, Tryd.results11, go_sem, nilMf, Mf.val, k0, k1, k2, k3, k4, k5]) rfl (by rw [hdn.out]; exact ⟨hE6, rfl⟩)
            · have hdn : decM l = none := by rw [hdg.out]; simp only [hc, false_and, if_false]
              have he := hno.out hc
              have hcn : ((checkP m : Int) != 0) = true := by simp; omega
              obtain ⟨k, hk⟩ : ∃ k, k = checkP m := ⟨_, rfl⟩
              rw [← hk] at he hcn
              subst he
              replace hdn := hide hdn
              clear hc hdg hk
              go_wp2_with fail
              obtain ⟨w6, hw6⟩ : ∃ w6, w6 = setM w5 w.heap.size nilMf none 0 := ⟨_, rfl⟩
              have hk6 := setM_row hz5.out nilMf none 0
              rw [← hw6] at hk6
              have hE6 := setM_ext hEw5.out (Nat.le_refl _) nilMf none 0
              rw [← hw6] at hE6
              simp only [setM, nilMf, List.length_nil] at hw6
              rw [← hw6]
              have k0 : w6.cell? ⟨w.heap.size, 0, none⟩ = some (.slice none 0 0) := hk6.cell 0 rfl
              have k1 : w6.cell? ⟨w.heap.size, 1, none⟩ = some (.int .i64 0) := hk6.cell 1 rfl
              have k2 : w6.cell? ⟨w.heap.size, 2, none⟩ = some (.int .i64 0) := hk6.cell 2 rfl
              have k3 : w6.cell? ⟨w.heap.size, 3, none⟩ = some (.int .i64 0) := hk6.cell 3 rfl
              have k4 : w6.cell? ⟨w.heap.size, 4, none⟩ = some (.int .i64 0) := hk6.cell 4 rfl
              have k5 : w6.cell? ⟨w.heap.size, 5, none⟩ = some (.int .i64 0) := hk6.cell 5 rfl
              clear hw6 hk6
              exact bodyPost_ret (v := .tuple #[nilMf.val none 0, .int .i64 160]) (by simp [results, Tryd.results11, go_sem, nilMf, Mf.val, k0, k1, k2, k3, k4, k5]) rfl (by rw [hdn.out]; exact ⟨hE6, rfl⟩)
end Go.Proofs.YtijnomopcpgikaaDoor
