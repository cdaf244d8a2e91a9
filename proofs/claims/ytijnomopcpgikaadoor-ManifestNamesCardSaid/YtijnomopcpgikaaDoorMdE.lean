/- loggia/manifest: Decode, walked. -/
import Derived.Test.YtijnomopcpgikaaDoorMdD
import Derived.Test.YtijnomopcpgikaaDoorMfStore
namespace Go.Proofs.YtijnomopcpgikaaDoor
open Go.RowKit

/-- The reader's manifest, laid. -/
def setR (w : World) (g : Nat) (a0 a1 a2 a3 a4 : Int) : World := (((((w.setCell ⟨g, 2, none⟩ (.slice none 0 0)).setCell ⟨g, 3, none⟩ (.int .i64 a0)).setCell ⟨g, 4, none⟩ (.int .i64 a1)).setCell ⟨g, 5, none⟩ (.int .i64 a2)).setCell ⟨g, 6, none⟩ (.int .i64 a3)).setCell ⟨g, 7, none⟩ (.int .i64 a4)
theorem setR_row {w : World} {g : Nat} {t : TypeId} {x0 x1 x2 x3 x4 x5 x6 x7 : Value} (h : Row w g t #[x0, x1, x2, x3, x4, x5, x6, x7]) (a0 a1 a2 a3 a4 : Int) : Row (setR w g a0 a1 a2 a3 a4) g t #[x0, x1, .slice none 0 0, .int .i64 a0, .int .i64 a1, .int .i64 a2, .int .i64 a3, .int .i64 a4] :=
  (((((h.put 2 _).put 3 _).put 4 _).put 5 _).put 6 _).put 7 _
theorem setR_chg (w : World) (g : Nat) (a0 a1 a2 a3 a4 : Int) : Chg (fun b => b = g) w (setR w g a0 a1 a2 a3 a4) := by
  have one : ∀ (w : World) (i : Nat) (v : Value), Chg (fun b => b = g) w (w.setCell ⟨g, i, none⟩ v) := fun w i v => Chg.of_set w (a := ⟨g, i, none⟩) v rfl
  unfold setR
  exact ((((((one w 2 _).trans (one _ 3 _) fun _ _ h => h).trans (one _ 4 _) fun _ _ h => h).trans (one _ 5 _) fun _ _ h => h).trans (one _ 6 _) fun _ _ h => h).trans (one _ 7 _) fun _ _ h => h)
theorem encM_short {m : Mf} (h : m.In) (hc : checkP m = 0) : (encM m).length ≤ 40000 := by
  obtain ⟨h5, _⟩ := checkP_zero hc
  have h1 := encI_len h h5 m.ps.length (Nat.le_refl _)
  rw [encI_all] at h1
  rw [encM_len]
  omega
theorem setM_owns {w : World} {base : Nat} {e : TypeId} {size n : Nat} {v : Value} {xs : List Value} (h : w.ownsRow base e size v n xs) {g : Nat} (hg : v.ownBlock ≠ some g) (m : Mf) (A : Option Addr) (c : Nat) : (setM w g m A c).ownsRow base e size v n xs :=
  owns_set (owns_set (owns_set (owns_set (owns_set (owns_set h (a := ⟨g, 0, none⟩) hg _) (a := ⟨g, 1, none⟩) hg _) (a := ⟨g, 2, none⟩) hg _) (a := ⟨g, 3, none⟩) hg _) (a := ⟨g, 4, none⟩) hg _) (a := ⟨g, 5, none⟩) hg _
set_option maxRecDepth 100000 in
set_option maxHeartbeats 4000000 in
theorem decode_any (A : Option Addr) (n c : Nat) (l : List UInt8) (w : World) (h : In8 w A n c l) (hle : n ≤ 1000000000) :
    Calls Tryd.prog 10 #[.slice A n c] w fun e w' => DecP w (decM l) e w' := by
  have hl := h.len
  have hz0 : Row (w.alloc (.cells #[.slice none 0 0, .int .i64 0, .int .i64 0, .int .i64 0, .int .i64 0, .int .i64 0] 24)) w.heap.size 24 #[.slice none 0 0, .int .i64 0, .int .i64 0, .int .i64 0, .int .i64 0, .int .i64 0] := Row.new w _ _
  have hE0 : Ext w (w.alloc (.cells #[.slice none 0 0, .int .i64 0, .int .i64 0, .int .i64 0, .int .i64 0, .int .i64 0] 24)) := (Ext.refl w).alloc _
  by_cases h8 : n < 8
  · have hd := hide (decM_short (b := l) (by omega))
    have c0 := hz0.cell 0 rfl
    have c1 := hz0.cell 1 rfl
    have c2 := hz0.cell 2 rfl
    have c3 := hz0.cell 3 rfl
    have c4 := hz0.cell 4 rfl
    have c5 := hz0.cell 5 rfl
    have hfr := fun i => hz0.free i
    clear hl h hz0
    replace hE0 := hide hE0
    go_enter Tryd.func10, Tryd.ntmps10
    go_wp2_with fail
    exact bodyPost_ret (v := .tuple #[nilMf.val none 0, .int .i64 160]) (by simp [results, Tryd.results10, go_sem, nilMf, Mf.val]) rfl (by rw [hd.out]; exact ⟨hE0.out, rfl⟩)
  · obtain ⟨A1, c1, hsub, hin⟩ := h.sub (fr := 4) (k := n - 8) (by omega) (z0 := 4) (z := (n : Int) - 4) rfl (by omega)
    obtain ⟨M, hM⟩ : ∃ M, M = (l.drop 4).take (n - 8) := ⟨_, rfl⟩
    rw [← hM] at hin
    have hml : n - 8 = M.length := hin.len
    have hdm : decM l = match getM M with
      | none => none
      | some m => if checkP m = 0 ∧ encM m = l then some m else none := by rw [hM, hl]; exact decM_mid l
    obtain ⟨W, hW⟩ : ∃ W, W = (w.alloc (.cells #[.slice none 0 0, .int .i64 0, .int .i64 0, .int .i64 0, .int .i64 0, .int .i64 0] 24)).alloc (.cells #[.slice A1 (n - 8) c1, .bool false, .slice none 0 0, .int .i64 0, .int .i64 0, .int .i64 0, .int .i64 0, .int .i64 0] 64) := ⟨_, rfl⟩
    have hEW : Ext w W := by rw [hW]; exact ((Ext.refl w).alloc _).alloc _
    have hrW : Row W (w.heap.size + 1) 64 #[.slice A1 (n - 8) c1, .bool false, .slice none 0 0, .int .i64 0, .int .i64 0, .int .i64 0, .int .i64 0, .int .i64 0] := by rw [hW]; have h := Row.new (w.alloc (.cells #[.slice none 0 0, .int .i64 0, .int .i64 0, .int .i64 0, .int .i64 0, .int .i64 0] 24)) 64 #[.slice A1 (n - 8) c1, .bool false, .slice none 0 0, .int .i64 0, .int .i64 0, .int .i64 0, .int .i64 0, .int .i64 0]; simpa using h
    have hzW : Row W w.heap.size 24 #[.slice none 0 0, .int .i64 0, .int .i64 0, .int .i64 0, .int .i64 0, .int .i64 0] := by rw [hW]; exact hz0.alloc _
    obtain ⟨rb, hrb⟩ : ∃ rb, rb = w.heap.size + 1 := ⟨_, rfl⟩
    rw [← hrb] at hrW
    have hnum := numbers_any A1 (n - 8) c1 5 rb false M (.slice none 0 0) (.int .i64 0) (.int .i64 0) (.int .i64 0) (.int .i64 0) (.int .i64 0) w W hin hEW (by omega) (by omega) (.inl rfl) hrW
    obtain ⟨q1, q2, q3⟩ := numsM_len false M 5
    have hgr := getM_reads M
    obtain ⟨a0, a1, a2, a3, a4, hns⟩ := five_of q1
    obtain ⟨r1, hr1⟩ : ∃ r, r = numsM false M 5 := ⟨_, rfl⟩
    rw [← hr1] at hnum hns hgr q2 q3
    obtain ⟨b1, L1, ns⟩ := r1
    simp only at hns hgr q2 q3
    subst hns
    have hL1 : L1.length ≤ 1000000000 := by omega
    have hpi : (partsP b1 L1).2.length ≤ 512 ∧ ∀ p ∈ (partsP b1 L1).2, p.Ok := by
      unfold partsP
      split
      · exact ⟨by simp, nofun⟩
      · split
        · exact ⟨by simp, nofun⟩
        · rename_i v r _ hv
          obtain ⟨h1, h2⟩ := partsM_in v false r
          exact ⟨by rw [h1]; omega, h2⟩
    obtain ⟨r2, hr2⟩ : ∃ r, r = partsP b1 L1 := ⟨_, rfl⟩
    rw [← hr2] at hgr hpi
    obtain ⟨b2, ps⟩ := r2
    simp only at hgr hpi
    replace hdm := hide hdm
    replace hnum := hide hnum
    replace hgr := hide hgr
    replace hW := hide hW
    have hrb' := hide hrb
    have hrb1 : w.heap.size < rb := by omega
    have hrb2 : w.heap.size ≠ rb := by omega
    replace hr2 := hide hr2
    replace h := hide h
    have hl' := hide hl
    clear hl hM hml hr1 hrb q1 hz0 hE0
    go_enter Tryd.func10, Tryd.ntmps10
    go_wp2_with fail
    rw [← hrb'.out, ← hW.out]
    refine hnum.out.mono ?_
    rintro e w1 ⟨A2, c2, B, cb, rfl, hr3, hin3, hbu, hch⟩
    have hz1 := hide (hch.row hzW hrb2)
    obtain ⟨g, o, rfl, hcc⟩ := hbu.cells.at_ (by simp)
    have z0 : w1.cell? ⟨g, o, none⟩ = some (.int .i64 a0) := hcc 0 _ rfl
    have z1 : w1.cell? ⟨g, o + 1, none⟩ = some (.int .i64 a1) := hcc 1 _ rfl
    have z2 : w1.cell? ⟨g, o + 2, none⟩ = some (.int .i64 a2) := hcc 2 _ rfl
    have z3 : w1.cell? ⟨g, o + 3, none⟩ = some (.int .i64 a3) := hcc 3 _ rfl
    have z4 : w1.cell? ⟨g, o + 4, none⟩ = some (.int .i64 a4) := hcc 4 _ rfl
    have y2 : w1.cell? ⟨rb, 2, none⟩ = some (.slice none 0 0) := hr3.cell 2 rfl
    have y3 : w1.cell? ⟨rb, 3, none⟩ = some (.int .i64 0) := hr3.cell 3 rfl
    have y4 : w1.cell? ⟨rb, 4, none⟩ = some (.int .i64 0) := hr3.cell 4 rfl
    have y5 : w1.cell? ⟨rb, 5, none⟩ = some (.int .i64 0) := hr3.cell 5 rfl
    have y6 : w1.cell? ⟨rb, 6, none⟩ = some (.int .i64 0) := hr3.cell 6 rfl
    have y7 : w1.cell? ⟨rb, 7, none⟩ = some (.int .i64 0) := hr3.cell 7 rfl
    have yf := fun i => hr3.free i
    have yl := hr3.lt
    have hr4 := hide hr3
    have hch' := hide hch
    clear hr3 hch hcc hbu hsub
    go_wp2_with fail
    refine wp_region_text follows (by kernel_rfl) (by kernel_rfl) (fun K hK => ?_)
    go_wp2_with fail
    refine ⟨by kernel_rfl, ?_⟩
    go_wp2_with fail
    obtain ⟨w2, hw2⟩ : ∃ w2, w2 = (setR w1 rb a0 a1 a2 a3 a4).drew := ⟨_, rfl⟩
    have hr5 : Row w2 rb 64 #[.slice A2 L1.length c2, .bool b1, .slice none 0 0, .int .i64 a0, .int .i64 a1, .int .i64 a2, .int .i64 a3, .int .i64 a4] := by rw [hw2]; exact (setR_row hr4.out a0 a1 a2 a3 a4).drew
    have hc2 : Chg (fun b => b = rb) w1 w2 := by rw [hw2]; exact (setR_chg w1 rb a0 a1 a2 a3 a4).trans (Chg.of_ext (Ext.refl _).drew (fun b => b = rb)) fun _ _ h => h
    have hcW2 := hch'.out.trans hc2 fun _ _ h => h
    have hEw2 : Ext w w2 := hEW.chg hcW2 fun k hk e => by omega
    have hz2 := hide (hc2.row hz1.out hrb2)
    have hpa := parts_any A2 L1.length c2 rb b1 L1 (.int .i64 a0) (.int .i64 a1) (.int .i64 a2) (.int .i64 a3) (.int .i64 a4) w w2 hin3 hEw2 hL1 (by omega) hr5
    rw [← hr2.out] at hpa
    unfold setR at hw2
    rw [← hw2]
    replace hpa := hide hpa
    replace hEw2 := hide hEw2
    clear hw2 hr5 hc2 hcW2 y2 y3 y4 y5 y6 y7 yf yl z0 z1 z2 z3 z4 hr4 hch'
    refine hpa.out.mono ?_
    rintro e w3 ⟨rfl, A3, c3, P, cp, L3, hr6, hown, hch3⟩
    simp only at hr6 hown
    have hEw3 := hide (hEw2.out.chg hch3 fun k hk e => by omega)
    have hz3 := hide (hch3.row hz2.out hrb2)
    have hOk : (mkMf [a0, a1, a2, a3, a4] ps).Ok w3 w3.heap.size P cp := by
      refine ⟨owns_parts hown hpi.2 (by show ps.length ≤ _; omega), ?_, ?_, ?_, ?_, ?_⟩
      · exact q2 a0 (by simp)
      · exact q2 a1 (by simp)
      · exact q2 a2 (by simp)
      · exact q2 a3 (by simp)
      · exact q2 a4 (by simp)
    have hval : (mkMf [a0, a1, a2, a3, a4] ps).val P cp = .agg #[.slice P ps.length cp, .int .i64 a0, .int .i64 a1, .int .i64 a2, .int .i64 a3, .int .i64 a4] := rfl
    have hcs : (mkMf [a0, a1, a2, a3, a4] ps).cells P cp = #[.slice P ps.length cp, .int .i64 a0, .int .i64 a1, .int .i64 a2, .int .i64 a3, .int .i64 a4] := rfl
    have hfl : (mkMf [a0, a1, a2, a3, a4] ps).ps = ps ∧ (mkMf [a0, a1, a2, a3, a4] ps).floor = a0 ∧ (mkMf [a0, a1, a2, a3, a4] ps).done = a1 ∧ (mkMf [a0, a1, a2, a3, a4] ps).log = a2 ∧ (mkMf [a0, a1, a2, a3, a4] ps).next = a3 ∧ (mkMf [a0, a1, a2, a3, a4] ps).now = a4 := ⟨rfl, rfl, rfl, rfl, rfl, rfl⟩
    have hen := encode_any w3.heap.size _ P cp w3 hOk
    rw [hval] at hen
    obtain ⟨m, hm⟩ : ∃ m, m = mkMf [a0, a1, a2, a3, a4] ps := ⟨_, rfl⟩
    rw [← hm] at hen hgr hOk hval hcs hfl
    have x2 : w3.cell? ⟨rb, 2, none⟩ = some (.slice P ps.length cp) := hr6.cell 2 rfl
    have x3 : w3.cell? ⟨rb, 3, none⟩ = some (.int .i64 a0) := hr6.cell 3 rfl
    have x4 : w3.cell? ⟨rb, 4, none⟩ = some (.int .i64 a1) := hr6.cell 4 rfl
    have x5 : w3.cell? ⟨rb, 5, none⟩ = some (.int .i64 a2) := hr6.cell 5 rfl
    have x6 : w3.cell? ⟨rb, 6, none⟩ = some (.int .i64 a3) := hr6.cell 6 rfl
    have x7 : w3.cell? ⟨rb, 7, none⟩ = some (.int .i64 a4) := hr6.cell 7 rfl
    have hr7 := hide hr6
    replace hen := hide hen
    replace hOk := hide hOk
    replace hval := hide hval
    replace hcs := hide hcs
    replace hfl := hide hfl
    have hown' := hide hown
    clear hm hown hr6 hch3 q2 hpa hnum
    go_wp2_with fail
    refine hen.out.mono ?_
    rintro e w4 ⟨hE4, hyes, hno⟩
    have hz4 := hz3.out.ext hE4
    have hEw4 := hide (hEw3.out.trans hE4)
    have hr8 := hr7.out.ext hE4
    have v1 : w4.cell? ⟨rb, 1, none⟩ = some (.bool b2) := hr8.cell 1 rfl
    have v2 : w4.cell? ⟨rb, 2, none⟩ = some (.slice P ps.length cp) := hr8.cell 2 rfl
    have v3 : w4.cell? ⟨rb, 3, none⟩ = some (.int .i64 a0) := hr8.cell 3 rfl
    have v4 : w4.cell? ⟨rb, 4, none⟩ = some (.int .i64 a1) := hr8.cell 4 rfl
    have v5 : w4.cell? ⟨rb, 5, none⟩ = some (.int .i64 a2) := hr8.cell 5 rfl
    have v6 : w4.cell? ⟨rb, 6, none⟩ = some (.int .i64 a3) := hr8.cell 6 rfl
    have v7 : w4.cell? ⟨rb, 7, none⟩ = some (.int .i64 a4) := hr8.cell 7 rfl
    have t0 : w4.cell? ⟨w.heap.size, 0, none⟩ = some (.slice none 0 0) := hz4.cell 0 rfl
    have t1 : w4.cell? ⟨w.heap.size, 1, none⟩ = some (.int .i64 0) := hz4.cell 1 rfl
    have t2 : w4.cell? ⟨w.heap.size, 2, none⟩ = some (.int .i64 0) := hz4.cell 2 rfl
    have t3 : w4.cell? ⟨w.heap.size, 3, none⟩ = some (.int .i64 0) := hz4.cell 3 rfl
    have t4 : w4.cell? ⟨w.heap.size, 4, none⟩ = some (.int .i64 0) := hz4.cell 4 rfl
    have t5 : w4.cell? ⟨w.heap.size, 5, none⟩ = some (.int .i64 0) := hz4.cell 5 rfl
    have tf := fun i => hz4.free i
    have tl := hz4.lt
    replace hyes := hide hyes
    replace hno := hide hno
    have hz5 := hide hz4
    clear x2 x3 x4 x5 x6 x7 hz4 hr8
    have hE4' := hide hE4
    have hnw := hide (show (Value.slice P ps.length cp).ownBlock ≠ some w.heap.size from fun e => by
      obtain ⟨_, _, hb⟩ := owns_row hown'.out e
      have := hz2.out.lt
      omega)
    cases b2 with
    | true =>
      have hdn : decM l = none := by rw [hdm.out, hgr.out.2 rfl]
      replace hdn := hide hdn
      by_cases hc : checkP m = 0
      · obtain ⟨A5, c5, rfl, hb5⟩ := hyes.out hc
        clear hc
        go_wp2_with fail
        obtain ⟨w6, hw6⟩ : ∃ w6, w6 = setM w4 w.heap.size nilMf none 0 := ⟨_, rfl⟩
        have hk6 := setM_row hz5.out nilMf none 0
        rw [← hw6] at hk6
        have hE6 := setM_ext hEw4.out (Nat.le_refl _) nilMf none 0
        rw [← hw6] at hE6
        simp only [setM, nilMf, List.length_nil] at hw6
        rw [← hw6]
        have k0 : w6.cell? ⟨w.heap.size, 0, none⟩ = some (.slice none 0 0) := hk6.cell 0 rfl
        have k1 : w6.cell? ⟨w.heap.size, 1, none⟩ = some (.int .i64 0) := hk6.cell 1 rfl
        have k2 : w6.cell? ⟨w.heap.size, 2, none⟩ = some (.int .i64 0) := hk6.cell 2 rfl
        have k3 : w6.cell? ⟨w.heap.size, 3, none⟩ = some (.int .i64 0) := hk6.cell 3 rfl
        have k4 : w6.cell? ⟨w.heap.size, 4, none⟩ = some (.int .i64 0) := hk6.cell 4 rfl
        have k5 : w6.cell? ⟨w.heap.size, 5, none⟩ = some (.int .i64 0) := hk6.cell 5 rfl
        clear hw6 hk6
        exact bodyPost_ret (v := .tuple #[nilMf.val none 0, .int .i64 160]) (by simp [results, Tryd.results10, go_sem, nilMf, Mf.val, k0, k1, k2, k3, k4, k5]) rfl (by rw [hdn.out]; exact ⟨hE6, rfl⟩)
      · have he := hno.out hc
        subst he
        clear hc
        go_wp2_with fail
        obtain ⟨w6, hw6⟩ : ∃ w6, w6 = setM w4 w.heap.size nilMf none 0 := ⟨_, rfl⟩
        have hk6 := setM_row hz5.out nilMf none 0
        rw [← hw6] at hk6
        have hE6 := setM_ext hEw4.out (Nat.le_refl _) nilMf none 0
        rw [← hw6] at hE6
        simp only [setM, nilMf, List.length_nil] at hw6
        rw [← hw6]
        have k0 : w6.cell? ⟨w.heap.size, 0, none⟩ = some (.slice none 0 0) := hk6.cell 0 rfl
        have k1 : w6.cell? ⟨w.heap.size, 1, none⟩ = some (.int .i64 0) := hk6.cell 1 rfl
        have k2 : w6.cell? ⟨w.heap.size, 2, none⟩ = some (.int .i64 0) := hk6.cell 2 rfl
        have k3 : w6.cell? ⟨w.heap.size, 3, none⟩ = some (.int .i64 0) := hk6.cell 3 rfl
        have k4 : w6.cell? ⟨w.heap.size, 4, none⟩ = some (.int .i64 0) := hk6.cell 4 rfl
        have k5 : w6.cell? ⟨w.heap.size, 5, none⟩ = some (.int .i64 0) := hk6.cell 5 rfl
        clear hw6 hk6
        exact bodyPost_ret (v := .tuple #[nilMf.val none 0, .int .i64 160]) (by simp [results, Tryd.results10, go_sem, nilMf, Mf.val, k0, k1, k2, k3, k4, k5]) rfl (by rw [hdn.out]; exact ⟨hE6, rfl⟩)
    | false =>
      have hgm := hgr.out.1 rfl
      by_cases hc : checkP m = 0
      · obtain ⟨A5, c5, rfl, hb5⟩ := hyes.out hc
        have heq := equalB_any A5 A (encM m).length n c5 c (encM m) l w4 hb5.in8 (h.out.ext hEw4.out) (Nat.le_trans (encM_short hOk.out.in_ hc) (by omega)) hle
        replace heq := hide heq
        by_cases he : encM m = l
        · have hdn : decM l = some m := by rw [hdm.out, hgm]; simp only [hc, he, and_self, if_true]
          rw [decide_eq_true he] at heq
          replace hdn := hide hdn
          clear hc he hgm
          obtain ⟨k, hk⟩ : ∃ k, k = (encM m).length := ⟨_, rfl⟩
          rw [← hk] at heq ⊢
          clear hk
          go_wp2_with fail
          refine heq.out.mono ?_
          rintro e w5 ⟨rfl, hE5⟩
          have hE5' := hide hE5
          have hz6 := hide (hz5.out.ext hE5)
          have hEw5 := hide (hEw4.out.trans hE5)
          have v2' := hE5.cell v2
          have v3' := hE5.cell v3
          have v4' := hE5.cell v4
          have v5' := hE5.cell v5
          have v6' := hE5.cell v6
          have v7' := hE5.cell v7
          have t0' := hE5.cell t0
          have t1' := hE5.cell t1
          have t2' := hE5.cell t2
          have t3' := hE5.cell t3
          have t4' := hE5.cell t4
          have t5' := hE5.cell t5
          have tf' := fun i => hz6.out.free i
          have tl' := hz6.out.lt
          clear v1 v2 v3 v4 v5 v6 v7 t0 t1 t2 t3 t4 t5 tf tl
          go_wp2_with fail
          obtain ⟨w6, hw6⟩ : ∃ w6, w6 = setM w5 w.heap.size m P cp := ⟨_, rfl⟩
          have hk6 := setM_row hz6.out m P cp
          rw [← hw6, hcs.out] at hk6
          have hE6 := setM_ext hEw5.out (Nat.le_refl _) m P cp
          rw [← hw6] at hE6
          have ho6 := setM_owns ((hE4'.out.trans hE5'.out).owns hown'.out) hnw.out m P cp
          rw [← hw6] at ho6
          unfold setM at hw6
          rw [hfl.out.1, hfl.out.2.1, hfl.out.2.2.1, hfl.out.2.2.2.1, hfl.out.2.2.2.2.1, hfl.out.2.2.2.2.2] at hw6
          rw [← hw6]
          have k0 : w6.cell? ⟨w.heap.size, 0, none⟩ = some (.slice P ps.length cp) := hk6.cell 0 rfl
          have k1 : w6.cell? ⟨w.heap.size, 1, none⟩ = some (.int .i64 a0) := hk6.cell 1 rfl
          have k2 : w6.cell? ⟨w.heap.size, 2, none⟩ = some (.int .i64 a1) := hk6.cell 2 rfl
          have k3 : w6.cell? ⟨w.heap.size, 3, none⟩ = some (.int .i64 a2) := hk6.cell 3 rfl
          have k4 : w6.cell? ⟨w.heap.size, 4, none⟩ = some (.int .i64 a3) := hk6.cell 4 rfl
          have k5 : w6.cell? ⟨w.heap.size, 5, none⟩ = some (.int .i64 a4) := hk6.cell 5 rfl
          have hPS := owns_parts ho6 hpi.2 (by omega)
          have hok6 : m.Ok w6 w6.heap.size P cp := ⟨by rw [hfl.out.1]; exact hPS, hOk.out.floor, hOk.out.done, hOk.out.log, hOk.out.next, hOk.out.now⟩
          clear hw6 hk6 ho6 hPS
          exact bodyPost_ret (v := .tuple #[m.val P cp, .int .i64 0]) (by rw [hval.out]; simp [results, Tryd.results10, go_sem, k0, k1, k2, k3, k4, k5]) rfl (by rw [hdn.out]; exact ⟨hE6, P, cp, rfl, hok6⟩)
        · have hdn : decM l = none := by rw [hdm.out, hgm]; simp only [hc, he, and_false, if_false]
          rw [decide_eq_false he] at heq
          replace hdn := hide hdn
          clear hc he hgm
          obtain ⟨k, hk⟩ : ∃ k, k = (encM m).length := ⟨_, rfl⟩
          rw [← hk] at heq ⊢
          clear hk
          go_wp2_with fail
          refine heq.out.mono ?_
          rintro e w5 ⟨rfl, hE5⟩
          have hz6 := hide (hz5.out.ext hE5)
          have hEw5 := hide (hEw4.out.trans hE5)
          have t0' := hE5.cell t0
          have t1' := hE5.cell t1
          have t2' := hE5.cell t2
          have t3' := hE5.cell t3
          have t4' := hE5.cell t4
          have t5' := hE5.cell t5
          have tf' := fun i => hz6.out.free i
          have tl' := hz6.out.lt
          clear v1 v2 v3 v4 v5 v6 v7 t0 t1 t2 t3 t4 t5 tf tl
          go_wp2_with fail
          obtain ⟨w6, hw6⟩ : ∃ w6, w6 = setM w5 w.heap.size nilMf none 0 := ⟨_, rfl⟩
          have hk6 := setM_row hz6.out nilMf none 0
          rw [← hw6] at hk6
          have hE6 := setM_ext hEw5.out (Nat.le_refl _) nilMf none 0
          rw [← hw6] at hE6
          simp only [setM, nilMf, List.length_nil] at hw6
          rw [← hw6]
          have k0 : w6.cell? ⟨w.heap.size, 0, none⟩ = some (.slice none 0 0) := hk6.cell 0 rfl
          have k1 : w6.cell? ⟨w.heap.size, 1, none⟩ = some (.int .i64 0) := hk6.cell 1 rfl
          have k2 : w6.cell? ⟨w.heap.size, 2, none⟩ = some (.int .i64 0) := hk6.cell 2 rfl
          have k3 : w6.cell? ⟨w.heap.size, 3, none⟩ = some (.int .i64 0) := hk6.cell 3 rfl
          have k4 : w6.cell? ⟨w.heap.size, 4, none⟩ = some (.int .i64 0) := hk6.cell 4 rfl
          have k5 : w6.cell? ⟨w.heap.size, 5, none⟩ = some (.int .i64 0) := hk6.cell 5 rfl
          clear hw6 hk6
          exact bodyPost_ret (v := .tuple #[nilMf.val none 0, .int .i64 160]) (by simp [results, Tryd.results10, go_sem, nilMf, Mf.val, k0, k1, k2, k3, k4, k5]) rfl (by rw [hdn.out]; exact ⟨hE6, rfl⟩)
      · have hdn : decM l = none := by rw [hdm.out, hgm]; simp only [hc, false_and, if_false]
        have he := hno.out hc
        have hcn : ((checkP m : Int) != 0) = true := by simp; omega
        obtain ⟨k, hk⟩ : ∃ k, k = checkP m := ⟨_, rfl⟩
        rw [← hk] at he hcn
        subst he
        replace hdn := hide hdn
        clear hc hgm hk
        go_wp2_with fail
        obtain ⟨w6, hw6⟩ : ∃ w6, w6 = setM w4 w.heap.size nilMf none 0 := ⟨_, rfl⟩
        have hk6 := setM_row hz5.out nilMf none 0
        rw [← hw6] at hk6
        have hE6 := setM_ext hEw4.out (Nat.le_refl _) nilMf none 0
        rw [← hw6] at hE6
        simp only [setM, nilMf, List.length_nil] at hw6
        rw [← hw6]
        have k0 : w6.cell? ⟨w.heap.size, 0, none⟩ = some (.slice none 0 0) := hk6.cell 0 rfl
        have k1 : w6.cell? ⟨w.heap.size, 1, none⟩ = some (.int .i64 0) := hk6.cell 1 rfl
        have k2 : w6.cell? ⟨w.heap.size, 2, none⟩ = some (.int .i64 0) := hk6.cell 2 rfl
        have k3 : w6.cell? ⟨w.heap.size, 3, none⟩ = some (.int .i64 0) := hk6.cell 3 rfl
        have k4 : w6.cell? ⟨w.heap.size, 4, none⟩ = some (.int .i64 0) := hk6.cell 4 rfl
        have k5 : w6.cell? ⟨w.heap.size, 5, none⟩ = some (.int .i64 0) := hk6.cell 5 rfl
        clear hw6 hk6
        exact bodyPost_ret (v := .tuple #[nilMf.val none 0, .int .i64 160]) (by simp [results, Tryd.results10, go_sem, nilMf, Mf.val, k0, k1, k2, k3, k4, k5]) rfl (by rw [hdn.out]; exact ⟨hE6, rfl⟩)
end Go.Proofs.YtijnomopcpgikaaDoor
