/- loggia/manifest: Check. -/
import Derived.Test.YtijnomopcpgikaaDoorMfB
import Derived.Test.YtijnomopcpgikaaDoorLexb
import Derived.Test.YtijnomopcpgikaaDoorByt
import Derived.Deep.CutRange
namespace Go.Proofs.YtijnomopcpgikaaDoor
open Go.RowKit

/-- The last partition's number and last event, if all may be. -/
def goP : List Pt → Int → Int → Option (Int × Int)
  | [], id, last => some (id, last)
  | p :: ps, id, last => if partP p = true ∧ id < p.id ∧ last < p.fi then goP ps p.id p.la else none
def endP (m : Mf) (id last : Int) : Bool := decide (last ≤ m.done) && decide (m.done ≤ 1099511627776) && numP m.log && numP m.next && decide (id < m.next)
def isP (m : Mf) : Bool := match goP m.ps 0 0 with
  | none => false
  | some (id, last) => endP m id last
def checkP (m : Mf) : Nat := if 512 < m.ps.length then 3 else if isP m then 0 else 160
theorem goP_at {ps : List Pt} {i : Nat} {p : Pt} (h : ps[i]? = some p) (id last : Int) : goP (ps.drop i) id last = if partP p = true ∧ id < p.id ∧ last < p.fi then goP (ps.drop (i + 1)) p.id p.la else none := by
  have hi := (List.getElem?_eq_some_iff.1 h).1
  have h2 := (List.getElem?_eq_some_iff.1 h).2
  rw [List.drop_eq_getElem_cons hi, h2]
  rfl
theorem checkP_bad {m : Mf} (h1 : ¬ 512 < m.ps.length) (h : goP m.ps 0 0 = none) : checkP m = 160 := by
  unfold checkP isP
  rw [if_neg h1, h]
  rfl
theorem checkP_end {m : Mf} {id last : Int} (h1 : ¬ 512 < m.ps.length) (h : goP m.ps 0 0 = some (id, last)) : checkP m = if endP m id last then 0 else 160 := by
  unfold checkP isP
  rw [if_neg h1, h]
set_option maxRecDepth 100000 in
set_option maxHeartbeats 4000000 in
theorem check_any (base : Nat) (m : Mf) (A : Option Addr) (c : Nat) (w : World) (h : m.Ok w base A c) : Calls Tryd.prog 23 #[m.val A c] w fun e w' => e = .returned (.int .i64 (checkP m)) ∧ Ext w w' := by
  have hparts := h.parts
  have hmost := hparts.most
  have hf := h.done
  have hlg := h.log
  have hnx := h.next
  unfold I64ok at hf hlg hnx
  have hln : ∀ W, Calls Tryd.prog 40 #[.int .i64 m.log] W fun e w' => e = .returned (.bool (numP m.log)) ∧ w' = W := numbered_any m.log
  have hnn : ∀ W, Calls Tryd.prog 40 #[.int .i64 m.next] W fun e w' => e = .returned (.bool (numP m.next)) ∧ w' = W := numbered_any m.next
  unfold Mf.val
  replace hln := hide hln
  replace hnn := hide hnn
  by_cases h5 : 512 < m.ps.length
  · have hc : checkP m = 3 := by unfold checkP; rw [if_pos h5]
    rw [hc]
    clear hc
    go_enter Tryd.func23, Tryd.ntmps23
    go_wp2_with fail
    go_ret
    exact ⟨rfl, (Ext.refl w).alloc _⟩
  · have hb : Row (w.alloc (.cells #[.slice A m.ps.length c, .int .i64 m.floor, .int .i64 m.done, .int .i64 m.log, .int .i64 m.next, .int .i64 m.now] 24)) w.heap.size 24 #[.slice A m.ps.length c, .int .i64 m.floor, .int .i64 m.done, .int .i64 m.log, .int .i64 m.next, .int .i64 m.now] := Row.new w _ _
    have hE0 : Ext w (w.alloc (.cells #[.slice A m.ps.length c, .int .i64 m.floor, .int .i64 m.done, .int .i64 m.log, .int .i64 m.next, .int .i64 m.now] 24)) := (Ext.refl w).alloc _
    go_enter Tryd.func23, Tryd.ntmps23
    go_wp2_with fail
    obtain ⟨W, hW⟩ : ∃ W, W = w.alloc (.cells #[.slice A m.ps.length c, .int .i64 m.floor, .int .i64 m.done, .int .i64 m.log, .int .i64 m.next, .int .i64 m.now] 24) := ⟨_, rfl⟩
    rw [← hW] at hb hE0
    try rw [← hW]
    clear hW
    go_loopw [3, 4, 14] (fun s3 s4 s14 wr => ∃ (i : Nat) (id last : Int), s3 = .int .i64 id ∧ s4 = .int .i64 last ∧ s14 = .int .i64 i ∧ i ≤ m.ps.length ∧ I64ok id ∧ I64ok last ∧ Hid (goP m.ps 0 0 = goP (m.ps.drop i) id last) ∧ Hid (Ext W wr)) (fun _ _ s14 _ => m.ps.length - (intOf s14).toNat)
    case atStart => exact ⟨0, 0, 0, rfl, rfl, rfl, by omega, by unfold I64ok; omega, by unfold I64ok; omega, rfl, hide (Ext.refl W)⟩
    case round =>
      obtain ⟨i, id, last, rfl, rfl, rfl, hi, hid, hla, hgo, hE⟩ := hrel
      unfold I64ok at hid hla
      by_cases hin : i < m.ps.length
      · obtain ⟨g, s, p, rfl, hp, hpo, k0, k1, k2, k3, k4, k5, k6⟩ := (hparts.ext (hE0.trans hE.out)).at_ hin
        have hpc := part_any p (wr.alloc (.cells #[.int .i64 p.id, .int .i64 p.st, .int .i64 p.lo, .int .i64 p.hi, .int .i64 p.fi, .int .i64 p.la, .int .i64 p.n] 40)) hpo
        have hbx : Row (wr.alloc (.cells #[.int .i64 p.id, .int .i64 p.st, .int .i64 p.lo, .int .i64 p.hi, .int .i64 p.fi, .int .i64 p.la, .int .i64 p.n] 40)) wr.heap.size 40 #[.int .i64 p.id, .int .i64 p.st, .int .i64 p.lo, .int .i64 p.hi, .int .i64 p.fi, .int .i64 p.la, .int .i64 p.n] := Row.new wr _ _
        have hEa : Ext W (wr.alloc (.cells #[.int .i64 p.id, .int .i64 p.st, .int .i64 p.lo, .int .i64 p.hi, .int .i64 p.fi, .int .i64 p.la, .int .i64 p.n] 40)) := hE.out.alloc _
        obtain ⟨q1, q2, q3, q4, q5, q6, q7⟩ := hpo
        unfold I64ok at q1 q2 q3 q4 q5 q6 q7
        have hga := goP_at hp id last
        rw [← hgo.out] at hga
        unfold Pt.val at hpc
        replace hga := hide hga
        replace hbx := hide hbx
        replace hEa := hide hEa
        cases hpp : partP p with
        | false =>
          rw [hpp] at hpc
          replace hpc := hide hpc
          have hbad : checkP m = 160 := checkP_bad h5 (by rw [hga.out, if_neg (by rw [hpp]; simp)])
          replace hbad := hide hbad
          go_wp2_with fail
          refine hpc.out.mono ?_
          rintro e w4 ⟨rfl, hE4⟩
          go_wp2_with fail
          go_ret
          rw [hbad.out]
          exact ⟨rfl, (hE0.trans hEa.out).trans hE4⟩
        | true =>
          rw [hpp] at hpc
          replace hpc := hide hpc
          by_cases hx1 : id < p.id
          · by_cases hx2 : last < p.fi
            · have hnext := hga.out
              rw [if_pos ⟨hpp, hx1, hx2⟩] at hnext
              replace hnext := hide hnext
              go_wp2_with fail
              refine hpc.out.mono ?_
              rintro e w4 ⟨rfl, hE4⟩
              have hb4 := hbx.out.ext hE4
              have x0 := hb4.cell 0 rfl
              have x4 := hb4.cell 4 rfl
              have x5 := hb4.cell 5 rfl
              go_wp2_with fail
              refine wp_region_text follows (by kernel_rfl) (by kernel_rfl) (fun K hK => ?_)
              go_wp2_with fail
              refine ⟨by kernel_rfl, ?_⟩
              go_wp2_with fail
              go_roundw
              case rel => exact ⟨i + 1, p.id, p.la, rfl, rfl, by go_num, by omega, by unfold I64ok; omega, by unfold I64ok; omega, hnext, hide ((hEa.out.trans hE4).drew)⟩
              case measure => simp [intOf]; omega
            · have hbad : checkP m = 160 := checkP_bad h5 (by rw [hga.out, if_neg (fun hh => hx2 hh.2.2)])
              replace hbad := hide hbad
              go_wp2_with fail
              refine hpc.out.mono ?_
              rintro e w4 ⟨rfl, hE4⟩
              have hb4 := hbx.out.ext hE4
              have x0 := hb4.cell 0 rfl
              have x4 := hb4.cell 4 rfl
              go_wp2_with fail
              go_ret
              rw [hbad.out]
              exact ⟨rfl, (hE0.trans hEa.out).trans hE4⟩
          · have hbad : checkP m = 160 := checkP_bad h5 (by rw [hga.out, if_neg (fun hh => hx1 hh.2.1)])
            replace hbad := hide hbad
            go_wp2_with fail
            refine hpc.out.mono ?_
            rintro e w4 ⟨rfl, hE4⟩
            have hb4 := hbx.out.ext hE4
            have x0 := hb4.cell 0 rfl
            have x4 := hb4.cell 4 rfl
            go_wp2_with fail
            go_ret
            rw [hbad.out]
            exact ⟨rfl, (hE0.trans hEa.out).trans hE4⟩
      · have hii : i = m.ps.length := by omega
        have hb1 : decide ((i : Int) < (m.ps.length : Int)) = false := decide_eq_false (by omega)
        have hend : goP m.ps 0 0 = some (id, last) := by
          rw [hgo.out, List.drop_of_length_le (by omega)]
          rfl
        have hce := checkP_end h5 hend
        have hbr := hb.ext hE.out
        have x2 := hbr.cell 2 rfl
        have x3 := hbr.cell 3 rfl
        have x4 := hbr.cell 4 rfl
        have hEr := hide (hE0.trans hE.out)
        clear hii
        replace hce := hide hce
        replace hend := hide hend
        by_cases e1 : last ≤ m.done
        · by_cases e2 : m.done ≤ 1099511627776
          · cases e3 : numP m.log with
            | false =>
              rw [e3] at hln
              have hv : endP m id last = false := by unfold endP; simp [e1, e2, e3]
              have hres : checkP m = 160 := by rw [hce.out, hv]; rfl
              clear hv
              replace hres := hide hres
              go_wp2_with fail
              refine (hln.out _).mono ?_
              rintro e w5 ⟨rfl, rfl⟩
              go_wp2_with fail
              go_ret
              rw [hres.out]
              exact ⟨by first | rfl | simp [e1, e2, e3], hEr.out⟩
            | true =>
              rw [e3] at hln
              cases e4 : numP m.next with
              | false =>
                rw [e4] at hnn
                have hv : endP m id last = false := by unfold endP; simp [e1, e2, e3, e4]
                have hres : checkP m = 160 := by rw [hce.out, hv]; rfl
                clear hv
                replace hres := hide hres
                go_wp2_with fail
                refine (hln.out _).mono ?_
                rintro e w5 ⟨rfl, rfl⟩
                go_wp2_with fail
                refine (hnn.out _).mono ?_
                rintro e w6 ⟨rfl, rfl⟩
                go_wp2_with fail
                go_ret
                rw [hres.out]
                exact ⟨by first | rfl | simp [e1, e2, e3, e4], hEr.out⟩
              | true =>
                rw [e4] at hnn
                by_cases e5 : id < m.next
                · have hv : endP m id last = true := by unfold endP; simp [e1, e2, e3, e4, e5]
                  have hres : checkP m = 0 := by rw [hce.out, hv]; rfl
                  clear hv
                  replace hres := hide hres
                  go_wp2_with fail
                  refine (hln.out _).mono ?_
                  rintro e w5 ⟨rfl, rfl⟩
                  go_wp2_with fail
                  refine (hnn.out _).mono ?_
                  rintro e w6 ⟨rfl, rfl⟩
                  go_wp2_with fail
                  go_ret
                  rw [hres.out]
                  exact ⟨by first | rfl | simp [e1, e2, e3, e4, e5], hEr.out⟩
                · have hv : endP m id last = false := by unfold endP; simp [e1, e2, e3, e4, e5]
                  have hres : checkP m = 160 := by rw [hce.out, hv]; rfl
                  clear hv
                  replace hres := hide hres
                  go_wp2_with fail
                  refine (hln.out _).mono ?_
                  rintro e w5 ⟨rfl, rfl⟩
                  go_wp2_with fail
                  refine (hnn.out _).mono ?_
                  rintro e w6 ⟨rfl, rfl⟩
                  go_wp2_with fail
                  go_ret
                  rw [hres.out]
                  exact ⟨by first | rfl | simp [e1, e2, e3, e4, e5], hEr.out⟩
          · have hv : endP m id last = false := by unfold endP; simp [e1, e2]
            have hres : checkP m = 160 := by rw [hce.out, hv]; rfl
            clear hv
            replace hres := hide hres
            go_wp2_with fail
            go_ret
            rw [hres.out]
            exact ⟨by first | rfl | simp [e1, e2], hEr.out⟩
        · have hv : endP m id last = false := by unfold endP; simp [e1]
          have hres : checkP m = 160 := by rw [hce.out, hv]; rfl
          clear hv
          replace hres := hide hres
          go_wp2_with fail
          go_ret
          rw [hres.out]
          exact ⟨by first | rfl | simp [e1], hEr.out⟩
end Go.Proofs.YtijnomopcpgikaaDoor
