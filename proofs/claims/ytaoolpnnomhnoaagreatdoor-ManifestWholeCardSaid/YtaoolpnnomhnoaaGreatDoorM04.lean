/- loggia/manifest: (*reader).parts. -/
import Derived.Test.YtaoolpnnomhnoaaGreatDoorM03
import Derived.Deep.QuietTactic
import Derived.BigQuiet
import Derived.Test.YtaoolpnnomhnoaaGreatDoorM02
import Derived.Deep.CutRange
import Derived.Deep.DeepCutAuto
import Derived.Deep.RegionHeld3
set_option linter.unusedSimpArgs false
set_option linter.unusedVariables false
namespace Go.Proofs.YtaoolpnnomhnoaaGreatDoor
open Go.RowKit

def partsM : Nat → Bool → List UInt8 → Bool × List Pt
  | 0, bad, _ => (bad, [])
  | k + 1, bad, L => ((partsM k (numsM bad L 6).1 (numsM bad L 6).2.1).1, mkPt (numsM bad L 6).2.2 :: (partsM k (numsM bad L 6).1 (numsM bad L 6).2.1).2)
theorem partsM_bad : ∀ (k : Nat) (L : List UInt8), (partsM k true L).1 = true
  | 0, _ => rfl
  | k + 1, L => by
    unfold partsM
    rw [numsM_bad]
    exact partsM_bad k L
theorem partsM_ok : ∀ (k : Nat) (L : List UInt8) (ps : List Pt) (r : List UInt8), getPts k L = .ok (ps, r) → partsM k false L = (false, ps)
  | 0, L, ps, r, h => by
    unfold getPts at h
    injection h with h
    injection h with h1 h2
    subst h1
    rfl
  | k + 1, L, ps, r, h => by
    unfold getPts at h
    split at h
    · cases h
    · rename_i ns r1 hg
      split at h
      · cases h
      · rename_i ps1 r2 hr
        injection h with h
        injection h with h1 h2
        subst h1
        unfold partsM
        rw [numsM_ok hg]
        simp only
        rw [partsM_ok k r1 ps1 r2 hr]
theorem partsM_err : ∀ (k : Nat) (L : List UInt8) (x : Nat), getPts k L = .error x → (partsM k false L).1 = true
  | 0, L, x, h => by unfold getPts at h; cases h
  | k + 1, L, x, h => by
    unfold getPts at h
    unfold partsM
    split at h
    · rename_i e hg
      rw [numsM_err hg]
      exact partsM_bad k L
    · rename_i ns r1 hg
      rw [numsM_ok hg]
      simp only
      split at h
      · rename_i e hr
        exact partsM_err k r1 e hr
      · cases h
theorem numsM_len (bad : Bool) (L : List UInt8) (k : Nat) : (numsM bad L k).2.2.length = k ∧ (∀ n ∈ (numsM bad L k).2.2, -9223372036854775808 ≤ n ∧ n ≤ 9223372036854775807) ∧ (numsM bad L k).2.1.length ≤ L.length := by
  have hz : ∀ n ∈ List.replicate k (0 : Int), -9223372036854775808 ≤ n ∧ n ≤ 9223372036854775807 := fun n hn => by
    rw [List.eq_of_mem_replicate hn]
    omega
  cases bad with
  | true => rw [numsM_bad]; exact ⟨by simp, hz, Nat.le_refl _⟩
  | false =>
    cases hg : getAll k L with
    | error x => rw [numsM_err hg]; exact ⟨by simp, hz, Nat.le_refl _⟩
    | ok p =>
      obtain ⟨ns, r⟩ := p
      rw [numsM_ok hg]
      obtain ⟨h1, h2, q, h3⟩ := getAll_len k L ns r hg
      refine ⟨h1, h2, ?_⟩
      rw [h3, List.length_append]
      exact Nat.le_add_left _ _
theorem partsM_in : ∀ (k : Nat) (bad : Bool) (L : List UInt8), (partsM k bad L).2.length = k ∧ ∀ p ∈ (partsM k bad L).2, p.Ok
  | 0, _, _ => ⟨rfl, nofun⟩
  | k + 1, bad, L => by
    obtain ⟨h1, h2⟩ := partsM_in k (numsM bad L 6).1 (numsM bad L 6).2.1
    unfold partsM
    refine ⟨by rw [List.length_cons, h1], fun p hp => ?_⟩
    rcases List.mem_cons.1 hp with rfl | hp
    · exact mkPt_ok (numsM_len bad L 6).2.1
    · exact h2 p hp
/-- The partitions that the reader reads. -/
def partsP (bad : Bool) (L : List UInt8) : Bool × List Pt := match getV 0 L with
  | .error _ => (true, [])
  | .ok (n, r) => if bad = true ∨ 512 < n then (true, []) else partsM n false r
theorem six_of {l : List Int} (h : l.length = 6) : ∃ a0 a1 a2 a3 a4 a5, l = [a0, a1, a2, a3, a4, a5] := by
  match l, h with
  | [a0, a1, a2, a3, a4, a5], _ => exact ⟨a0, a1, a2, a3, a4, a5, rfl⟩
theorem partsM_step {v i : Nat} {b b3 : Bool} {L L3 : List UInt8} {ns : List Int} {ps : List Pt} {Z : Bool × List Pt} (h : Z = ((partsM (v - i) b L).1, ps ++ (partsM (v - i) b L).2)) (hi : i < v) (hq : (b3, L3, ns) = numsM b L 6) :
    Z = ((partsM (v - (i + 1)) b3 L3).1, (ps ++ [mkPt ns]) ++ (partsM (v - (i + 1)) b3 L3).2) := by
  obtain ⟨k, hk⟩ : ∃ k, v - i = k + 1 := ⟨v - i - 1, by omega⟩
  rw [h, hk, show v - (i + 1) = k by omega]
  conv => lhs; unfold partsM
  rw [← hq]
  simp
theorem pcells_snoc (ps : List Pt) (p : Pt) : pcells (ps ++ [p]) = pcells ps ++ p.cells := by unfold pcells; rw [List.flatMap_append]; simp
set_option maxRecDepth 100000 in
theorem elemP : Elem Tryz.prog 22 71 7 56 := ⟨Tryz.underlying22, ⟨_, _, rfl, rfl, rfl, rfl, rfl⟩, by omega, by omega⟩
def ReadP (w0 w : World) (rb : Nat) (x3 x4 x5 x6 x7 : Value) (res : Bool × List Pt) (w' : World) : Prop :=
  ∃ A c P cp, ∃ L : List UInt8, Row w' rb 113 #[.slice A L.length c, .bool res.1, .slice P res.2.length cp, x3, x4, x5, x6, x7] ∧ w'.ownsRow w.heap.size 71 7 (.slice P res.2.length cp) res.2.length (pcells res.2) ∧ Chg (fun b => b = rb) w w'
set_option maxRecDepth 100000 in
set_option maxHeartbeats 4000000 in
theorem parts_any (A : Option Addr) (n c rb : Nat) (bad : Bool) (L : List UInt8) (x3 x4 x5 x6 x7 : Value) (w0 w : World) (h : In8 w0 A n c L) (hw : Ext w0 w) (hle : n ≤ 1000000000) (hrb : w0.heap.size ≤ rb)
    (hr : Row w rb 113 #[.slice A n c, .bool bad, .slice none 0 0, x3, x4, x5, x6, x7]) :
    Calls Tryz.prog 71 #[.pointer (some ⟨rb, 0, none⟩)] w fun e w' => e = .returned (.tuple #[]) ∧ ReadP w0 w rb x3 x4 x5 x6 x7 (partsP bad L) w' := by
  obtain rfl := h.len
  have q0 : w.cell? ⟨rb, 0, none⟩ = some (.slice A L.length c) := hr.cell 0 rfl
  have hlt := hr.lt
  have hgv := get_any A L.length c L w0 w h hw hle
  replace hgv := hide hgv
  have hone : ∀ w1, Ext w w1 → partsP bad L = (true, []) → ReadP w0 w rb x3 x4 x5 x6 x7 (partsP bad L) (w1.setCell ⟨rb, 1, none⟩ (.bool true)) := by
    intro w1 hE1 hn
    rw [hn]
    refine ⟨A, c, none, 0, L, (hr.ext hE1).put 1 (.bool true), ⟨rfl, .inl ⟨rfl, rfl⟩⟩, ?_⟩
    exact (Chg.of_ext hE1 _).trans (Chg.of_set w1 (a := ⟨rb, 1, none⟩) (.bool true) (S := fun b => b = rb) rfl) fun _ _ h => h
  replace hone := hide hone
  cases hg : getV 0 L with
  | error x =>
    have hpp : partsP bad L = (true, []) := by unfold partsP; rw [hg]
    rw [hg] at hgv
    have hx := getV_err L 0 x hg
    have hx0 : ((x : Int) != 0) = true := by simp; omega
    replace hpp := hide hpp
    clear hg hx
    go_enter Tryz.func71, Tryz.ntmps71
    go_wp2_with fail
    refine hgv.out.mono ?_
    rintro e w1 ⟨hE1, rfl⟩
    have r1 := hr.ext hE1
    have y1 : w1.cell? ⟨rb, 1, none⟩ = some (.bool bad) := r1.cell 1 rfl
    have hlt1 := r1.lt
    have hfr1 := r1.free 1
    go_wp2_with fail
    all_goals
      first
        | (go_end0; exact ⟨rfl, hone.out _ hE1 hpp.out⟩)
        | exact bodyPost_ret (v := .tuple #[]) (by simp [results, Tryz.results71, go_sem]) rfl ⟨rfl, hone.out _ hE1 hpp.out⟩
  | ok p =>
    obtain ⟨v, r⟩ := p
    rw [hg] at hgv
    have hv := getV_lt64 hg
    have hrl : r.length ≤ 1000000000 := by
      obtain ⟨_, _, q, hq, _⟩ := getV_lt L 0 v r hg
      rw [hq, List.length_append] at hle
      omega
    by_cases hb5 : bad = true ∨ 512 < v
    · have hpp : partsP bad L = (true, []) := by unfold partsP; rw [hg]; simp only; rw [if_pos hb5]
      replace hpp := hide hpp
      clear hg
      have hb5' : bad = false → 512 < v := fun h => by rcases hb5 with h2 | h2; rw [h] at h2; cases h2; exact h2
      replace hb5' := hide hb5'
      clear hb5
      cases bad with
      | true =>
        go_enter Tryz.func71, Tryz.ntmps71
        go_wp2_with fail
        refine hgv.out.mono ?_
        rintro e w1 ⟨hE1, A1, c1, rfl, hin1⟩
        have r1 := hr.ext hE1
        have y1 : w1.cell? ⟨rb, 1, none⟩ = some (.bool true) := r1.cell 1 rfl
        have hlt1 := r1.lt
        have hfr1 := r1.free 1
        go_wp2_with fail
        all_goals
          first
            | (go_end0; exact ⟨rfl, hone.out _ hE1 hpp.out⟩)
            | exact bodyPost_ret (v := .tuple #[]) (by simp [results, Tryz.results71, go_sem]) rfl ⟨rfl, hone.out _ hE1 hpp.out⟩
      | false =>
        have hv5 := hb5'.out rfl
        go_enter Tryz.func71, Tryz.ntmps71
        go_wp2_with fail
        refine hgv.out.mono ?_
        rintro e w1 ⟨hE1, A1, c1, rfl, hin1⟩
        have r1 := hr.ext hE1
        have y1 : w1.cell? ⟨rb, 1, none⟩ = some (.bool false) := r1.cell 1 rfl
        have hlt1 := r1.lt
        have hfr1 := r1.free 1
        go_wp2_with fail
        all_goals
          first
            | (go_end0; exact ⟨rfl, hone.out _ hE1 hpp.out⟩)
            | exact bodyPost_ret (v := .tuple #[]) (by simp [results, Tryz.results71, go_sem]) rfl ⟨rfl, hone.out _ hE1 hpp.out⟩
    · have hpp : partsP bad L = partsM v false r := by unfold partsP; rw [hg]; simp only; rw [if_neg hb5]
      have hbf : bad = false := by cases bad with | false => rfl | true => exact absurd (.inl rfl) hb5
      have hv5 : v ≤ 512 := by omega
      subst hbf
      replace hpp := hide hpp
      clear hg hone hb5
      go_enter Tryz.func71, Tryz.ntmps71
      go_wp2_with fail
      refine hgv.out.mono ?_
      rintro e w1 ⟨hE1, A1, c1, rfl, hin1⟩
      have r1 := hr.ext hE1
      have y1 : w1.cell? ⟨rb, 1, none⟩ = some (.bool false) := r1.cell 1 rfl
      have y0 : w1.cell? ⟨rb, 0, none⟩ = some (.slice A L.length c) := r1.cell 0 rfl
      have hlt1 := r1.lt
      have hfr0 := r1.free 0
      have r2 := hide (show Row (w1.setCell ⟨rb, 0, none⟩ (.slice A1 r.length c1)) rb 113 #[.slice A1 r.length c1, .bool false, .slice none 0 0, x3, x4, x5, x6, x7] from r1.put 0 _)
      have hc2 := hide ((Chg.of_ext hE1 (fun b => b = rb)).trans (Chg.of_set w1 (a := ⟨rb, 0, none⟩) (.slice A1 r.length c1) (S := fun b => b = rb) rfl) fun _ _ h => h)
      go_wp2_with fail
      go_loopw [40] (fun s40 wr => ∃ (i : Nat) (bad2 : Bool) (L2 : List UInt8) (ps : List Pt) (A2 P : Option Addr) (c3 cp : Nat), s40 = .int .u64 i ∧ i ≤ v ∧ L2.length ≤ 1000000000 ∧ Hid (partsM v false r = ((partsM (v - i) bad2 L2).1, ps ++ (partsM (v - i) bad2 L2).2)) ∧ Hid (ps.length = i) ∧ Hid (Row wr rb 113 #[.slice A2 L2.length c3, .bool bad2, .slice P i cp, x3, x4, x5, x6, x7]) ∧ Hid (In8 w0 A2 L2.length c3 L2) ∧ Hid (wr.ownsRow w.heap.size 71 7 (.slice P i cp) i (pcells ps)) ∧ Hid (Chg (fun b => b = rb) w wr)) (fun s40 _ => v - (intOf s40).toNat)
      case atStart => exact ⟨0, false, r, [], A1, none, c1, 0, rfl, by omega, hrl, hide (by simp), hide rfl, r2, hide hin1, hide ⟨rfl, .inl ⟨rfl, rfl⟩⟩, hc2⟩
      case round =>
        obtain ⟨i, bad2, L2, ps, A2, P, c3, cp, rfl, hi, hL2, hpm, hpl, hrw, hin2, hown, hch⟩ := hrel
        by_cases hiv : i < v
        · have hE2 : Ext w0 wr := hw.chg hch.out fun k hk h => by omega
          have hnum := numbers_any A2 L2.length c3 6 rb bad2 L2 (.slice P i cp) x3 x4 x5 x6 x7 w0 wr hin2.out hE2 hL2 hrb (.inr rfl) hrw.out
          obtain ⟨n1, n2, n3⟩ := numsM_len bad2 L2 6
          obtain ⟨a0, a1, a2, a3, a4, a5, hns⟩ := six_of n1
          obtain ⟨q, hq⟩ : ∃ q, q = numsM bad2 L2 6 := ⟨_, rfl⟩
          rw [← hq] at hnum hns n3
          obtain ⟨b3, L3, ns⟩ := q
          simp only at hns n3
          subst hns
          replace hnum := hide hnum
          have hq' := hide hq
          clear n1 n2 hq
          have hlr := hrw.out.lt
          go_wp2_with fail
          refine hnum.out.mono ?_
          rintro e w2 ⟨A3, c4, B, cb, rfl, hr2, hin3, hbu, hch2⟩
          obtain ⟨g, o, rfl, hcc⟩ := hbu.cells.at_ (by simp)
          have z0 : w2.cell? ⟨g, o, none⟩ = some (.int .i64 a0) := hcc 0 _ rfl
          have z1 : w2.cell? ⟨g, o + 1, none⟩ = some (.int .i64 a1) := hcc 1 _ rfl
          have z2 : w2.cell? ⟨g, o + 2, none⟩ = some (.int .i64 a2) := hcc 2 _ rfl
          have z3 : w2.cell? ⟨g, o + 3, none⟩ = some (.int .i64 a3) := hcc 3 _ rfl
          have z4 : w2.cell? ⟨g, o + 4, none⟩ = some (.int .i64 a4) := hcc 4 _ rfl
          have z5 : w2.cell? ⟨g, o + 5, none⟩ = some (.int .i64 a5) := hcc 5 _ rfl
          go_wp2_with fail
          refine wp_region_text follows (by kernel_rfl) (by kernel_rfl) (fun K hK => ?_)
          go_wp2_with fail
          refine ⟨by kernel_rfl, ?_⟩
          go_wp2_with fail
          obtain ⟨w3, hw3⟩ : ∃ w3, w3 = (w2.alloc (.cells #[.int .i64 a0, .int .i64 a1, .int .i64 a2, .int .i64 a3, .int .i64 a4, .int .i64 a5, .int .i64 (wrap64 (wrap64 (a5 - a4) + 1))] 71)).drew := ⟨_, rfl⟩
          have hE3 : Ext w2 w3 := by rw [hw3]; exact ((Ext.refl w2).alloc _).drew
          have hpr : Row w3 w2.heap.size 71 #[.int .i64 a0, .int .i64 a1, .int .i64 a2, .int .i64 a3, .int .i64 a4, .int .i64 a5, .int .i64 (wrap64 (wrap64 (a5 - a4) + 1))] := by rw [hw3]; exact (Row.new w2 _ _).drew
          have hstep := hide (partsM_step hpm.out hiv hq'.out)
          have hrbw : rb < w.heap.size := hlt
          have hnrb : ∀ g, (Value.slice P i cp).ownBlock = some g → ¬ g = rb := fun g hg e => by
            obtain ⟨_, _, hb⟩ := owns_row hown.out hg
            omega
          have hown3 := hE3.owns (hch2.owns hown.out hnrb)
          have hr3 := hr2.ext hE3
          have hch3 := hide ((hch.out.trans hch2 fun _ _ h => h).trans (Chg.of_ext hE3 (fun b => b = rb)) fun _ _ h => h)
          rw [← hw3]
          clear hw3 z0 z1 z2 z3 z4 z5 hcc hbu hq' hpm hown hrw
          have p0 := hpr.cell 0 rfl
          have p1 := hpr.cell 1 rfl
          have p2 := hpr.cell 2 rfl
          have p3 := hpr.cell 3 rfl
          have p4 := hpr.cell 4 rfl
          have p5 := hpr.cell 5 rfl
          have p6 := hpr.cell 6 rfl
          have q2 : w3.cell? ⟨rb, 2, none⟩ = some (.slice P i cp) := hr3.cell 2 rfl
          have hown4 := hide (((Ext.refl w3).drew).owns hown3)
          have hr4 := hide (hr3.drew)
          have hsz3 := hch3.out.size
          have hne3 := hide hnrb
          clear hown3 hpr hr3 hnrb hr2 hch2 hE3
          refine wp_region_text follows (by kernel_rfl) (by kernel_rfl) (fun K hK => ?_)
          go_wp2_with (at_builtin; refine wpList_appS (m := 1) elemP hown4.out (.tmp 77) (.tmp 79) rfl rfl rfl rfl rfl (one_of rfl) (by omega) hsz3 (fun A4 c5 w4 ho5 hg5 hl5 => ?_); have r5 := Row.grown hr4.out hg5 (fun e => hne3.out rb e.symm rfl); have y2 : w4.cell? ⟨rb, 2, none⟩ = some (.slice P i cp) := r5.cell 2 rfl; have f2 := r5.free 2; have l5 := r5.lt; have r6 := hide r5; have hg6 := hide hg5; have ho6 := hide ho5; clear r5 hg5 ho5 hl5)
          refine ⟨by kernel_rfl, ?_⟩
          go_wp2_with fail
          go_roundw
          case rel =>
            have hpt : (mkPt [a0, a1, a2, a3, a4, a5]).cells = [.int .i64 a0, .int .i64 a1, .int .i64 a2, .int .i64 a3, .int .i64 a4, .int .i64 a5, .int .i64 (wrap64 (wrap64 (a5 - a4) + 1))] := rfl
            have hne4 : (Value.slice A4 (i + 1) c5).ownBlock ≠ some rb := fun e => by
              obtain ⟨_, _, hb⟩ := owns_row ho6.out e
              omega
            refine ⟨i + 1, b3, L3, ps ++ [mkPt [a0, a1, a2, a3, a4, a5]], A3, A4, c4, c5, by go_num, by omega, by omega, hstep, hide (by rw [List.length_append, hpl.out]; rfl), hide (r6.out.put 2 _), hide hin3, hide ?_, hide ?_⟩
            · rw [pcells_snoc, hpt]
              exact owns_set ho6.out hne4 _
            · have hgr : Chg (fun b => b = rb ∨ (Value.slice P i cp).ownBlock = some b) w3.drew (w4.setCell ⟨rb, 2, none⟩ (.slice A4 (i + 1) c5)) :=
                Chg.trans (S' := fun b => b = rb ∨ (Value.slice P i cp).ownBlock = some b) (Chg.of_grown hg6.out fun k _ e => .inr e) (Chg.of_set w4 (a := ⟨rb, 2, none⟩) _ (.inl rfl)) fun _ _ h => h
              refine (hch3.out.trans (Chg.of_ext (Ext.refl w3).drew (fun b => b = rb)) fun _ _ h => h).trans hgr fun k hk hh => ?_
              rcases hh with hh | hh
              · exact hh
              · obtain ⟨_, _, hb⟩ := owns_row hown4.out hh
                omega
          case measure => simp [intOf]; omega
        · obtain rfl : i = v := by omega
          have hz := hpm.out
          rw [Nat.sub_self, show partsM 0 bad2 L2 = (bad2, []) from rfl, List.append_nil] at hz
          replace hz := hide hz
          go_wp2_with fail
          have hfin : ReadP w0 w rb x3 x4 x5 x6 x7 (partsP false L) wr := by
            rw [hpp.out, hz.out]
            exact ⟨A2, c3, P, cp, L2, by rw [hpl.out]; exact hrw.out, by rw [hpl.out]; exact hown.out, hch.out⟩
          first
            | (go_end0; exact ⟨rfl, hfin⟩)
            | exact bodyPost_ret (v := .tuple #[]) (by simp [results, Tryz.results71, go_sem]) rfl ⟨rfl, hfin⟩
end Go.Proofs.YtaoolpnnomhnoaaGreatDoor

/- slices.Equal of bytes; cut. -/
namespace Go.Proofs.YtaoolpnnomhnoaaGreatDoor
open Go.RowKit

set_option maxRecDepth 100000 in
set_option maxHeartbeats 2000000 in
theorem equalB_any (A B : Option Addr) (n m c c2 : Nat) (a b : List UInt8) (w : World) (ha : In8 w A n c a) (hb : In8 w B m c2 b) (hn : n ≤ 1000000000) (hm : m ≤ 1000000000) :
    Calls Tryz.prog 72 #[.slice A n c, .slice B m c2] w fun e w' => e = .returned (.bool (decide (a = b))) ∧ Ext w w' := by
  have hal := ha.len
  have hbl := hb.len
  have hne : ((n : Int) != (m : Int)) = true → decide (a = b) = false := fun h => decide_eq_false fun e => by rw [e] at hal; simp at h; omega
  replace hne := hide hne
  by_cases hnm : n = m
  · subst hnm
    replace hal := hide hal
    replace hbl := hide hbl
    clear hne
    go_enter Tryz.func72, Tryz.ntmps72
    go_wp2_with fail
    go_loopw [13] (fun s13 wr => ∃ i : Nat, s13 = .int .i64 i ∧ i ≤ n ∧ Hid (a.take i = b.take i) ∧ Hid (Ext w wr)) (fun s13 _ => n - (intOf s13).toNat)
    case atStart => exact ⟨0, rfl, by omega, rfl, hide (Ext.refl w)⟩
    case round =>
      obtain ⟨i, rfl, hi, hab, hE⟩ := hrel
      by_cases hin : i < n
      · have hia : i < a.length := by rw [← hal.out]; exact hin
        have hib : i < b.length := by rw [← hbl.out]; exact hin
        obtain ⟨g, o, rfl, hc⟩ := ha.bytes.at_ (by omega)
        obtain ⟨g2, o2, rfl, hc2⟩ := hb.bytes.at_ (by omega)
        have k0 := hE.out.cell (hc i hia)
        have k1 := hE.out.cell (hc2 i hib)
        have hx : a[i] = b[i] → a.take (i + 1) = b.take (i + 1) := fun h => by rw [List.take_succ_eq_append_getElem hia, List.take_succ_eq_append_getElem hib, hab.out, h]
        have hy : a[i] ≠ b[i] → decide (a = b) = false := fun h => decide_eq_false fun e => h (by subst e; rfl)
        obtain ⟨p, hp⟩ : ∃ p, p = a[i] := ⟨_, rfl⟩
        obtain ⟨q, hq⟩ : ∃ q, q = b[i] := ⟨_, rfl⟩
        rw [← hp, ← hq] at hx hy
        rw [← hp] at k0
        rw [← hq] at k1
        have hi0 : (0 : Int) ≤ i := by omega
        have hi1 : (i : Int) < n := by omega
        replace hx := hide hx
        replace hy := hide hy
        clear hp hq hc hc2
        by_cases hpq : p = q
        · subst hpq
          have hx2 := hide (hx.out rfl)
          clear hx hy
          go_wp2_with fail
          go_quiet (fail)
          go_wp2_with fail
          go_roundw
          case rel => exact ⟨i + 1, by go_num, by omega, hx2, by first | exact hide hE.out.drew | exact hide (hE.out.drewN _)⟩
          case measure => simp [intOf]; omega
        · have hy2 := hide (hy.out hpq)
          have hpn : (((p.toNat : Int)) != (q.toNat : Int)) = true := by simp; exact fun h => hpq (UInt8.toNat_inj.1 (by omega))
          clear hx hy
          go_wp2_with fail
          go_quiet (fail)
          go_wp2_with fail
          go_ret
          exact ⟨ret_bool hy2.out.symm, by first | exact hE.out.drew | exact hE.out.drewN _⟩
      · obtain rfl : i = n := by omega
        have hd : decide (a = b) = true := decide_eq_true (by
          have h := hab.out
          rw [List.take_of_length_le (by rw [← hal.out]; exact Nat.le_refl _), List.take_of_length_le (by rw [← hbl.out]; exact Nat.le_refl _)] at h
          exact h)
        replace hd := hide hd
        go_wp2_with fail
        go_ret
        exact ⟨ret_bool hd.out.symm, hE.out⟩
  · have hd := hide (hne.out (by simp; omega))
    clear hne hal hbl ha hb
    go_enter Tryz.func72, Tryz.ntmps72
    go_wp2_with fail
    go_ret
    exact ⟨ret_bool hd.out.symm, Ext.refl w⟩
def cutL (l : List UInt8) : List UInt8 := l.take 900
theorem In8.take {w : World} {A : Option Addr} {n c : Nat} {l : List UInt8} (h : In8 w A n c l) {k : Nat} (hk : k ≤ n) : In8 w A k c (l.take k) := by
  refine ⟨by rw [List.length_take, ← h.len]; omega, ?_, by have := h.cap; omega, h.nil_, h.at_⟩
  rcases h.bytes with hb | ⟨g, o, hA, hb⟩
  · left
    have : l = [] := by simpa using hb
    rw [this]
    simp
  · refine .inr ⟨g, o, hA, fun i v hv => hb i v ?_⟩
    rw [List.getElem?_map] at hv ⊢
    rw [List.getElem?_take] at hv
    split at hv
    · exact hv
    · cases hv
set_option maxRecDepth 100000 in
set_option maxHeartbeats 1000000 in
theorem cut_any (A : Option Addr) (n c : Nat) (l : List UInt8) (w0 w : World) (h : In8 w0 A n c l) : Calls Tryz.prog 39 #[.slice A n c] w fun e w' => (e = .returned (.slice A (cutL l).length c) ∧ In8 w0 A (cutL l).length c (cutL l)) ∧ w' = w := by
  have hcap := h.cap
  have hl := h.len
  by_cases h9 : n ≤ 900
  · have ht : cutL l = l := List.take_of_length_le (by omega)
    rw [ht, ← hl]
    clear hl ht
    go_enter Tryz.func39, Tryz.ntmps39
    go_wp2_with fail
    go_ret
    exact ⟨⟨rfl, h⟩, rfl⟩
  · have hhd := fun W => run_head1 (n := n) (c := c) (k := 900) (A := A) (by omega) (fun a ha => (h.at_ a ha).1) W
    have ht := h.take (k := 900) (by omega)
    have hl9 : (cutL l).length = 900 := by unfold cutL; rw [List.length_take]; omega
    rw [hl9]
    clear hl hl9
    go_enter Tryz.func39, Tryz.ntmps39
    go_wp2_with fail
    go_ret
    exact ⟨⟨rfl, ht⟩, rfl⟩
end Go.Proofs.YtaoolpnnomhnoaaGreatDoor

/- loggia/manifest: Decode. -/
namespace Go.Proofs.YtaoolpnnomhnoaaGreatDoor
open Go.RowKit

set_option maxRecDepth 100000 in
theorem In8.sub {w : World} {A : Option Addr} {n c : Nat} {l : List UInt8} (h : In8 w A n c l) {fr k : Nat} (hf : fr + k ≤ n) {z0 z : Int} (hz0 : z0 = (fr : Int)) (hz : z = (fr : Int) + (k : Int)) :
    ∃ A' c', (∀ W : World, (Instr.sliceAt 57 (.slice A n c) (some (.int .i64 z0)) (some (.int .i64 z)) none).run Tryz.prog W = .ok (.slice A' k c') W) ∧ In8 w A' k c' ((l.drop fr).take k) := by
  subst hz0
  subst hz
  have ht := Tryz.underlying57
  have he : Tryz.prog.elem 57 = 5 := by unfold Program.elem; rw [ht]
  have hs : ∀ W : World, (sizeOf 5).run Tryz.prog W = .ok 1 W := fun W => by kernel_rfl
  have hcap := h.cap
  have hrun : ∀ W : World, (Instr.sliceAt 57 (.slice A n c) (some (.int .i64 fr)) (some (.int .i64 ((fr : Int) + (k : Int)))) none).run Tryz.prog W = .ok (sliced A fr (fr + k) c 1) W := by
    intro W
    rw [run_sliceAt_slice W _ _ _ _ _ (by rw [ht, he]), run_slice_lh W _ A n c (by rw [ht, he]) .i64 .i64 fr ((fr : Int) + k) (by omega) (by omega) (by omega), he, hs]
    simp only [Result.andThen_ok]
    congr 1
  unfold sliced at hrun
  rw [Nat.add_sub_cancel_left] at hrun
  refine ⟨_, _, hrun, by rw [List.length_take, List.length_drop, ← h.len]; omega, ?_, by omega, ?_, ?_⟩
  · rcases h.bytes with hb | ⟨g, o, rfl, hb⟩
    · left
      have : l = [] := by simpa using hb
      rw [this]
      simp
    · by_cases hcf : c = fr
      · left
        have : k = 0 := by omega
        subst this
        simp
      · refine .inr ⟨g, o + fr, by rw [if_neg hcf]; simp [Addr.add_lit], fun i v hv => ?_⟩
        rw [Nat.add_assoc]
        refine hb (fr + i) v ?_
        rw [List.getElem?_map] at hv ⊢
        rw [List.getElem?_take] at hv
        split at hv
        · rw [List.getElem?_drop] at hv
          exact hv
        · cases hv
  · intro hn
    cases A with
    | none => have := h.nil_ rfl; omega
    | some a => split at hn <;> cases hn
  · intro a ha
    cases A with
    | none => split at ha <;> cases ha
    | some b =>
      obtain ⟨h1, h2⟩ := h.at_ b rfl
      obtain ⟨b, o, sp⟩ := b
      obtain rfl : sp = Option.none := h1
      split at ha
      · cases ha; exact ⟨rfl, h2⟩
      · cases ha
        show (Addr.add ⟨b, o, none⟩ (fr * 1)).spot = none ∧ (Addr.add ⟨b, o, none⟩ (fr * 1)).block < w.heap.size
        rw [Addr.add_lit]
        exact ⟨rfl, h2⟩
def nilMf : Mf := ⟨[], 0, 0, 0, 0, 0⟩
/-- What Decode answers. -/
def DecP (w : World) (res : Option Mf) (e : Ending) (w' : World) : Prop := Ext w w' ∧ match res with
  | some m => ∃ A c, e = .returned (.tuple #[m.val A c, .int .i64 0]) ∧ m.Ok w' w'.heap.size A c
  | none => e = .returned (.tuple #[nilMf.val none 0, .int .i64 160])
theorem getM_reads (L : List UInt8) : ((partsP (numsM false L 5).1 (numsM false L 5).2.1).1 = false → getM L = some (mkMf (numsM false L 5).2.2 (partsP (numsM false L 5).1 (numsM false L 5).2.1).2)) ∧
    ((partsP (numsM false L 5).1 (numsM false L 5).2.1).1 = true → getM L = none) := by
  unfold getM
  cases hg : getAll 5 L with
  | error x =>
    rw [numsM_err hg]
    simp only
    refine ⟨fun h => ?_, fun _ => trivial⟩
    unfold partsP at h
    split at h
    · cases h
    · rw [if_pos (.inl rfl)] at h; cases h
  | ok p =>
    obtain ⟨ns, r⟩ := p
    rw [numsM_ok hg]
    simp only
    unfold partsP
    cases hv : getV 0 r with
    | error x => exact ⟨fun h => (by cases h), fun _ => rfl⟩
    | ok q =>
      obtain ⟨n, r2⟩ := q
      simp only [Bool.false_eq_true, false_or]
      by_cases h5 : 512 < n
      · rw [if_pos h5, if_pos h5]
        exact ⟨fun h => (by cases h), fun _ => rfl⟩
      · rw [if_neg h5, if_neg h5]
        cases hp : getPts n r2 with
        | error x =>
          have := partsM_err n r2 x hp
          exact ⟨fun h => (by rw [h] at this; cases this), fun _ => rfl⟩
        | ok t =>
          obtain ⟨ps, r3⟩ := t
          rw [partsM_ok n r2 ps r3 hp]
          exact ⟨fun _ => rfl, fun h => (by cases h)⟩
theorem five_of {l : List Int} (h : l.length = 5) : ∃ a0 a1 a2 a3 a4, l = [a0, a1, a2, a3, a4] := by
  match l, h with
  | [a0, a1, a2, a3, a4], _ => exact ⟨a0, a1, a2, a3, a4, rfl⟩
theorem owns_parts {w : World} {base : Nat} {P : Option Addr} {cp : Nat} {ps : List Pt} (h : w.ownsRow base 71 7 (.slice P ps.length cp) ps.length (pcells ps)) (hok : ∀ p ∈ ps, p.Ok) (h5 : ps.length ≤ 9223372036854775807) : PS w w.heap.size P ps.length cp ps := by
  refine ⟨rfl, Cells.of_own h, fun hne a ha => ?_, ?_, h5, hok⟩
  · rcases h.2 with ⟨hv, _⟩ | ⟨g, cap, cur, hv, _, hg, _⟩
    · injection hv with h0 _ _
      rw [h0] at ha
      cases ha
    · injection hv with h0 _ _
      rw [h0] at ha
      cases ha
      exact ⟨(Array.getElem?_eq_some_iff.1 hg).1, rfl⟩
  · rcases h.2 with ⟨hv, _⟩ | ⟨g, cap, cur, hv, _, hg, hn, _⟩
    · injection hv with _ h1 h2
      omega
    · injection hv with _ h1 h2
      omega
end Go.Proofs.YtaoolpnnomhnoaaGreatDoor

/- manifest.Save and manifest.Load, plainly; the manifest as a whole. -/
namespace Go.Proofs.YtaoolpnnomhnoaaGreatDoor
open Go.RowKit Go.Maps

/-- manifest, manifest.new -/
def curN : List UInt8 := [109, 97, 110, 105, 102, 101, 115, 116]
def comN : List UInt8 := [109, 97, 110, 105, 102, 101, 115, 116, 46, 110, 101, 119]
theorem cur_named : namedM curN = true := by decide
theorem com_named : namedM comN = true := by decide
def goneM (P : PD) : PD × Nat := if (sizeM P comN).2 then removeM P comN else (P, 0)
def thenM (x : PD × Nat) (f : PD → PD × Nat) : PD × Nat := if x.2 = 0 then f x.1 else x
def chainM : List (PD → PD × Nat) → PD → PD × Nat
  | [], P => (P, 0)
  | f :: fs, P => thenM (f P) (chainM fs)
def stepsM (P : PD) (b : List UInt8) : PD × Nat := chainM [goneM, fun P => appendM P comN b, fun P => syncM P comN, fun P => renameM P comN curN] P
theorem chain_go {f : PD → PD × Nat} {fs : List (PD → PD × Nat)} {P : PD} (h : (f P).2 = 0) : chainM (f :: fs) P = chainM fs (f P).1 := by show (if (f P).2 = 0 then chainM fs (f P).1 else f P) = _; rw [if_pos h]
theorem chain_no {f : PD → PD × Nat} {fs : List (PD → PD × Nat)} {P : PD} (h : ¬ (f P).2 = 0) : chainM (f :: fs) P = f P := by show (if (f P).2 = 0 then chainM fs (f P).1 else f P) = _; rw [if_neg h]
def saveM (P : PD) (m : Mf) : PD × Nat := if checkP m = 0 then (if (stepsM P (encM m)).2 = 0 ∨ (stepsM P (encM m)).2 = 63 then stepsM P (encM m) else ((goneM (stepsM P (encM m)).1).1, (stepsM P (encM m)).2)) else (P, checkP m)


def loadM (P : PD) : Mf × Bool × Nat := if P.stopped then (nilMf, false, 63) else match P.find curN with
  | none => (newM, false, 0)
  | some f => match decM (f.2.1.take 67108864) with
    | none => (nilMf, false, 160)
    | some m => (m, true, 0)
theorem flat_len_le {α : Type} (f : α → List UInt8) (k : Nat) : ∀ l : List α, (∀ x ∈ l, (f x).length ≤ k) → (l.flatMap f).length ≤ l.length * k
  | [], _ => by simp
  | x :: l, h => by
    have h1 := h x (List.mem_cons_self ..)
    have h2 := flat_len_le f k l fun y hy => h y (List.mem_cons_of_mem _ hy)
    rw [List.flatMap_cons, List.length_append, List.length_cons, Nat.add_mul]
    omega
theorem vall_le10 (l : List Int) (h : ∀ n ∈ l, I64ok n) : (vall l).length ≤ l.length * 10 := by
  unfold vall
  exact flat_len_le _ 10 l fun n hn => vb_len10 (by have := h n hn; unfold I64ok at this; unfold zig; split <;> omega)
theorem enc_small {m : Mf} (hi : m.In) (h : checkP m = 0) : (encM m).length ≤ 40000 := by
  obtain ⟨h5, _⟩ := checkP_zero h
  rw [encM_len]
  unfold encB
  rw [List.length_append, List.length_append, List.length_append]
  have h1 := vall_le10 [m.floor, m.done, m.log, m.next, m.now] (by
    intro n hn
    simp only [List.mem_cons, List.not_mem_nil, or_false] at hn
    rcases hn with rfl | rfl | rfl | rfl | rfl
    · exact hi.floor
    · exact hi.done
    · exact hi.log
    · exact hi.next
    · exact hi.now)
  have h2 := vb_len10 (n := m.ps.length) (by omega)
  have h3 := flat_len_le (fun p : Pt => vall [p.id, p.st, p.lo, p.hi, p.fi, p.la]) 60 m.ps (fun p hp => by
    have ho := hi.parts p hp
    refine vall_le10 [p.id, p.st, p.lo, p.hi, p.fi, p.la] ?_
    intro n hn
    simp only [List.mem_cons, List.not_mem_nil, or_false] at hn
    rcases hn with rfl | rfl | rfl | rfl | rfl | rfl
    · exact ho.id
    · exact ho.st
    · exact ho.lo
    · exact ho.hi
    · exact ho.fi
    · exact ho.la)
  simp only [List.length_cons, List.length_nil] at h1 ⊢
  omega
/-- A disk with the manifest, and one with the coming one. -/
def PD1 (A : List UInt8) (a c : Nat) : PD := ⟨[(curN, A, a)], 0, c, false⟩
theorem cur_ne : ¬ curN = comN := by decide
theorem com_ne : ¬ comN = curN := by decide
theorem cur_lt : curN < comN := by decide
theorem com_lt : ¬ comN < curN := by decide
theorem steps0 (B : List UInt8) (hB : B.length ≤ 67108864) : stepsM ⟨[], 0, 0, false⟩ B = (PD1 B B.length 0, 0) := by
  have hB2 : ¬ 67108864 < B.length := by omega
  simp [stepsM, chainM, thenM, goneM, sizeM, PD.find, appendM, com_named, putM, hB2, fullM, PD.goes, withG, withoutG, insG, fname, syncM, writesM, renameM, cur_named, PD1]
theorem steps1 (A B : List UInt8) (a c : Nat) (hB : B.length ≤ 67108864) : stepsM (PD1 A a c) B = (
    if c = 1 then (⟨[(curN, A, a)], 0, 0, true⟩, 63)
    else if c = 2 then (⟨[(curN, A, a), (comN, B, 0)], 0, 0, true⟩, 63)
    else if c = 3 then (⟨[(curN, A, a), (comN, B, B.length)], 0, 0, true⟩, 63)
    else (PD1 B B.length (c - 1 - 1 - 1), 0)) := by
  have hB2 : ¬ 67108864 < B.length := by omega
  have h2 : (c - 1 = 1) ↔ c = 2 := by omega
  have h3 : (c - 1 - 1 = 1) ↔ c = 3 := by omega
  by_cases h1 : c = 1
  · subst h1
    simp [stepsM, chainM, thenM, goneM, sizeM, PD.find, appendM, com_named, putM, hB2, fullM, PD.stops, fname, cur_ne, PD1]
  · by_cases hc2 : c = 2
    · subst hc2
      simp [stepsM, chainM, thenM, goneM, sizeM, PD.find, appendM, com_named, putM, hB2, fullM, PD.goes, PD.stops, withG, withoutG, insG, fname, cur_ne, com_ne, com_lt, syncM, writesM, PD1]
    · by_cases hc3 : c = 3
      · subst hc3
        simp [stepsM, chainM, thenM, goneM, sizeM, PD.find, appendM, com_named, cur_named, putM, hB2, fullM, PD.goes, PD.stops, withG, withoutG, insG, fname, cur_ne, com_ne, com_lt, syncM, writesM, renameM, PD1]
      · have h2' : ¬ (c - 1 = 1) := by omega
        have h3' : ¬ (c - 1 - 1 = 1) := by omega
        simp [stepsM, chainM, thenM, goneM, sizeM, PD.find, appendM, com_named, cur_named, putM, hB2, fullM, PD.goes, PD.stops, withG, withoutG, insG, fname, cur_ne, com_ne, com_lt, syncM, writesM, renameM, PD1, h1, hc2, hc3, h2', h3']
theorem load_head {A : List UInt8} {L : List PF} {q : Nat} {m : Mf} (keep : List Int) (hA : A.length ≤ 67108864) (hd : decM A = some m) (st : Bool) (ar : Nat) : loadM (restartM ⟨(curN, A, A.length) :: L, q, ar, st⟩ keep) = (m, true, 0) := by
  have hk : leftM ((curN, A, A.length) : PF) keep[0]? = A.length := by
    unfold leftM
    cases keep[0]? with
    | none => rfl
    | some k =>
      simp only
      show A.length + (k % ((A.length : Int) - (A.length : Nat) + 1)).toNat = A.length
      have h1 : ((A.length : Int) - (A.length : Nat) + 1) = 1 := by omega
      rw [h1, Int.emod_one]
      rfl
  unfold loadM restartM
  simp only [Bool.false_eq_true, if_false]
  unfold keptM PD.find
  rw [List.mapIdx_cons, hk]
  unfold cutM
  simp only [List.take_length, fname, List.find?_cons, decide_true]
  rw [List.take_of_length_le hA, hd]
/-- A Save on a new disk. -/
theorem save0 {a : Mf} (hi : a.In) (h : checkP a = 0) : saveM ⟨[], 0, 0, false⟩ a = (PD1 (encM a) (encM a).length 0, 0) := by
  have hl := enc_small hi h
  unfold saveM
  rw [if_pos h, steps0 _ (by omega), if_pos (.inl rfl)]
theorem save_bad {P : PD} {a : Mf} (h : ¬ checkP a = 0) : saveM P a = (P, checkP a) := by
  unfold saveM
  rw [if_neg h]
/-- As a whole: behind any stop and restart the old one or the new one is loaded; the new one, where Save told OK. -/
theorem whole {a b : Mf} (ha : a.In) (hb : b.In) (hca : checkP a = 0) (c : Nat) (keep : List Int) :
    ∃ m, loadM (restartM (saveM (PD1 (encM a) (encM a).length c) b).1 keep) = (m, true, 0) ∧ (checkP b ≠ 0 → (saveM (PD1 (encM a) (encM a).length c) b).2 = checkP b ∧ m = a) ∧ (checkP b = 0 → m = b ∨ (saveM (PD1 (encM a) (encM a).length c) b).2 ≠ 0 ∧ m = a) := by
  have hla := enc_small ha hca
  have hda := decM_of ha hca rfl
  by_cases hcb : checkP b = 0
  · have hlb := enc_small hb hcb
    have hdb := decM_of hb hcb rfl
    have hs := steps1 (encM a) (encM b) (encM a).length c (by omega)
    have hold : ∀ L st, loadM (restartM ⟨(curN, encM a, (encM a).length) :: L, 0, 0, st⟩ keep) = (a, true, 0) := fun L st => load_head keep (by omega) hda st 0
    have key : saveM (PD1 (encM a) (encM a).length c) b = stepsM (PD1 (encM a) (encM a).length c) (encM b) := by
      unfold saveM
      rw [if_pos hcb, if_pos]
      rw [hs]
      split
      · exact .inr rfl
      · split
        · exact .inr rfl
        · split
          · exact .inr rfl
          · exact .inl rfl
    rw [key, hs]
    split
    · exact ⟨a, hold _ _, fun h => absurd hcb h, fun _ => .inr ⟨by show (63 : Nat) ≠ 0; omega, rfl⟩⟩
    · split
      · exact ⟨a, hold _ _, fun h => absurd hcb h, fun _ => .inr ⟨by show (63 : Nat) ≠ 0; omega, rfl⟩⟩
      · split
        · exact ⟨a, hold _ _, fun h => absurd hcb h, fun _ => .inr ⟨by show (63 : Nat) ≠ 0; omega, rfl⟩⟩
        · exact ⟨b, load_head keep (by omega) hdb _ _, fun h => absurd hcb h, fun _ => .inl rfl⟩
  · rw [save_bad hcb]
    exact ⟨a, load_head keep (by omega) hda _ _, fun _ => ⟨rfl, rfl⟩, fun h => absurd h hcb⟩
end Go.Proofs.YtaoolpnnomhnoaaGreatDoor

/- A disk in memory and a disk, plainly; the calls that turn little. -/
namespace Go.Proofs.YtaoolpnnomhnoaaGreatDoor
open Go.RowKit Go.Maps

/-- The disk at d with the map m and the files E is P. -/
structure DE (w : World) (base d m : Nat) (P : PD) (E : List Ent) : Prop where
  row : DRow w d m P.quota P.armed P.stopped
  fs : FS w base m E
  low : base ≤ d
  up : Up Ent.name E
  cnt : E.length ≤ 1024
  lens : ∀ e ∈ E, e.b.length ≤ 67108864
  pl : E.map Ent.pl = P.L
  hq : P.quota ≤ 9223372036854775807
  ha : P.armed ≤ 9223372036854775807
/-- Its blocks. -/
def Foot (d m : Nat) (E : List Ent) (k : Nat) : Prop := k = d ∨ k = m ∨ ∃ e ∈ E, k = e.f ∨ ∃ a, e.A = some a ∧ a.block = k
/-- The disk at d is P; it has the blocks F. -/
def DS (w : World) (base d : Nat) (P : PD) (F : Nat → Prop) : Prop := ∃ m E, DE w base d m P E ∧ ∀ k, F k ↔ Foot d m E k
/-- A call of the disk at d, of the blocks F, has made P of it. -/
def DNext (base d : Nat) (F : Nat → Prop) (w : World) (P : PD) (w' : World) : Prop := ∃ F', DS w' base d P F' ∧ Chg F w w' ∧ ∀ k, F' k → F k ∨ w.heap.size ≤ k
section
variable {w w1 : World} {base d m : Nat} {P : PD} {E : List Ent} {F : Nat → Prop}
theorem DE.used (h : DE w base d m P E) : usedM E = usedP P.L := by
  rw [← h.pl]
  unfold usedM usedP
  rw [List.map_map]
  rfl
theorem used_bd : ∀ (E : List Ent), (∀ e ∈ E, e.b.length ≤ 67108864) → usedM E ≤ E.length * 67108864
  | [], _ => Nat.zero_le _
  | e :: E, h => by
    have := used_bd E fun x hx => h x (List.mem_cons_of_mem _ hx)
    have := h e (List.mem_cons_self ..)
    unfold usedM at *
    simp only [List.map_cons, List.sum_cons, List.length_cons]
    omega
theorem DE.used_le (h : DE w base d m P E) : usedM E ≤ 68719476736 := Nat.le_trans (used_bd E h.lens) (by have := h.cnt; omega)
theorem DE.find_in (h : DE w base d m P E) {e : Ent} (he : e ∈ E) : P.find e.name = some e.pl := by
  have h2 : Up fname P.L := by
    rw [← h.pl]
    unfold Up
    rw [List.pairwise_map]
    exact h.up
  exact find_of h2 (f := e.pl) (by rw [← h.pl]; exact List.mem_map.2 ⟨e, he, rfl⟩)
theorem DE.find_out (h : DE w base d m P E) {s : List UInt8} (hn : ∀ e ∈ E, e.name ≠ s) : P.find s = none := find_no (fun f hf => by
  rw [← h.pl] at hf
  obtain ⟨e, he, rfl⟩ := List.mem_map.1 hf
  exact hn e he)
set_option maxRecDepth 100000 in
theorem key_str {s : List UInt8} (hs : s.length ≤ 9223372036854775807) : keyOf Tryz.prog 9 (str s) = some (.string s) := WideMaps.keyOf_string_mk (P := Tryz.prog) Tryz.underlying9 (s := ⟨s.toArray⟩) (by rw [ByteArray.size_mk_toArray]; exact hs)
set_option maxRecDepth 100000 in
theorem DE.lookup (h : DE w base d m P E) (s : List UInt8) (hs : s.length ≤ 9223372036854775807) (W : World) (hW : W.heap[m]? = w.heap[m]?) :
    (∃ e ∈ E, e.name = s ∧ (Instr.lookup 54 (.map (some m)) (str s) true).run Tryz.prog W = .ok (.tuple #[.pointer (some ⟨e.f, 0, none⟩), .bool true]) W) ∨
    ((∀ e ∈ E, e.name ≠ s) ∧ (Instr.lookup 54 (.map (some m)) (str s) true).run Tryz.prog W = .ok (.tuple #[.pointer none, .bool false]) W) := by
  obtain ⟨L, hL, hmem, _⟩ := h.fs.map
  rcases (hL.keep hW).look keyS Tryz.underlying54 (x := str s) (key_str hs) (by kernel_rfl : (zeroValue 75).run Tryz.prog W = .ok (.pointer none) W) true with ⟨v, hv, hrun⟩ | ⟨hno, hrun⟩
  · obtain ⟨e, he, hkv⟩ := (hmem _).1 hv
    unfold Ent.kv at hkv
    injection hkv with h1 h2
    subst h2
    exact .inl ⟨e, he, (str_inj h1).symm, hrun⟩
  · refine .inr ⟨fun e he hs => hno e.kv ((hmem _).2 ⟨e, he, rfl⟩) (by rw [← hs]; rfl), hrun⟩
theorem DE.lt (h : DE w base d m P E) {k : Nat} (hk : Foot d m E k) : k < w.heap.size := by
  rcases hk with rfl | rfl | ⟨e, he, rfl | ⟨a, ha, rfl⟩⟩
  · exact Row.lt h.row
  · obtain ⟨L, hL, _⟩ := h.fs.map
    exact hL.lt
  · exact (h.fs.ok e he).row.lt
  · exact (h.fs.ok e he).buf.lt a ha
theorem DE.base_le (h : DE w base d m P E) {k : Nat} (hk : Foot d m E k) : base ≤ k := by
  rcases hk with rfl | rfl | ⟨e, he, rfl | ⟨a, ha, rfl⟩⟩
  · exact h.low
  · exact h.fs.low
  · exact (h.fs.ok e he).low
  · exact (h.fs.ok e he).buf.base_le a ha
theorem DS.lt (h : DS w base d P F) {k : Nat} (hk : F k) : k < w.heap.size := by
  obtain ⟨m, E, hD, hF⟩ := h
  exact hD.lt ((hF k).1 hk)
theorem DS.base_le (h : DS w base d P F) {k : Nat} (hk : F k) : base ≤ k := by
  obtain ⟨m, E, hD, hF⟩ := h
  exact hD.base_le ((hF k).1 hk)
theorem EOk.keep {e : Ent} (h : EOk w base e) (hf : w1.heap[e.f]? = w.heap[e.f]?) (ha : ∀ a, e.A = some a → w1.heap[a.block]? = w.heap[a.block]?) : EOk w1 base e :=
  ⟨h.row.keep hf, h.buf.keep fun g hg => ha ⟨g, 0, none⟩ hg, h.low, h.sure⟩
theorem FS.keep (h : FS w base m E) (hm : w1.heap[m]? = w.heap[m]?) (he : ∀ e ∈ E, w1.heap[e.f]? = w.heap[e.f]? ∧ ∀ a, e.A = some a → w1.heap[a.block]? = w.heap[a.block]?) : FS w1 base m E := by
  obtain ⟨⟨L, hL, hmem⟩, hok, r1, r2, r3, r4, r5⟩ := h
  exact ⟨⟨L, hL.keep hm, hmem⟩, fun e h => (hok e h).keep (he e h).1 (he e h).2, r1, r2, r3, r4, r5⟩
theorem FS.chg {S : Nat → Prop} (h : FS w base m E) (hc : Chg S w w1) (hn : ∀ k, S k → k ≠ m ∧ ∀ e ∈ E, k ≠ e.f ∧ ∀ a, e.A = some a → k ≠ a.block) : FS w1 base m E := by
  have hml : m < w.heap.size := by
    obtain ⟨L, hL, _⟩ := h.map
    exact hL.lt
  exact h.keep (hc.block m hml fun hs => (hn m hs).1 rfl) fun e he => ⟨hc.block _ (h.ok e he).row.lt fun hs => ((hn _ hs).2 e he).1 rfl, fun a ha => hc.block _ ((h.ok e he).buf.lt a ha) fun hs => ((hn _ hs).2 e he).2 a ha rfl⟩
theorem DE.chg {S : Nat → Prop} (h : DE w base d m P E) (hc : Chg S w w1) (hn : ∀ k, S k → ¬ Foot d m E k) : DE w1 base d m P E :=
  ⟨Chg.row hc h.row (fun hs => hn d hs (.inl rfl)), h.fs.chg hc (fun k hs => ⟨fun e => hn k hs (.inr (.inl e)), fun x hx => ⟨fun e => hn k hs (.inr (.inr ⟨x, hx, .inl e⟩)), fun a ha e => hn k hs (.inr (.inr ⟨x, hx, .inr ⟨a, ha, e.symm⟩⟩))⟩⟩), h.low, h.up, h.cnt, h.lens, h.pl, h.hq, h.ha⟩
theorem DS.chg {S : Nat → Prop} (h : DS w base d P F) (hc : Chg S w w1) (hn : ∀ k, S k → ¬ F k) : DS w1 base d P F := by
  obtain ⟨m, E, hD, hF⟩ := h
  exact ⟨m, E, hD.chg hc (fun k hs hk => hn k hs ((hF k).2 hk)), hF⟩
theorem DS.ext (h : DS w base d P F) (hc : Ext w w1) : DS w1 base d P F := h.chg (Chg.of_ext hc (fun _ => False)) (fun _ h => h.elim)
/-- Block d is none of the files', nor the map. -/
theorem DE.apart (h : DE w base d m P E) : d ≠ m ∧ ∀ e ∈ E, d ≠ e.f ∧ ∀ a, e.A = some a → d ≠ a.block := by
  refine ⟨?_, fun e he => ⟨Row.unlike h.row (h.fs.ok e he).row (by decide), fun a ha hd => (h.fs.ok e he).buf.unlike h.row (by decide) a ha hd.symm⟩⟩
  rintro rfl
  obtain ⟨L, hL, _⟩ := h.fs.map
  obtain ⟨es, cl, hm, _⟩ := hL.ex
  have h1 : w.heap[d]? = some (.cells _ _ (0, 0)) := h.row
  rw [h1] at hm
  cases hm
/-- Only its own block has turned. -/
theorem DE.own {P' : PD} (h : DE w base d m P E) (hc : Chg (fun k => k = d) w w1) (hr : DRow w1 d m P'.quota P'.armed P'.stopped) (hL : P'.L = P.L) (hq : P'.quota ≤ 9223372036854775807) (ha : P'.armed ≤ 9223372036854775807) : DE w1 base d m P' E :=
  ⟨hr, h.fs.chg hc (fun k hk => by subst hk; exact h.apart), h.low, h.up, h.cnt, h.lens, by rw [hL]; exact h.pl, hq, ha⟩
theorem DS.next (h : DS w base d P F) {m : Nat} {E E' : List Ent} {P' : PD} (hF : ∀ k, F k ↔ Foot d m E k) (hD : DE w1 base d m P' E') (hc : Chg (Foot d m E) w w1) (hf : ∀ k, Foot d m E' k → Foot d m E k ∨ w.heap.size ≤ k) : DNext base d F w P' w1 :=
  ⟨Foot d m E', ⟨m, E', hD, fun _ => Iff.rfl⟩, hc.mono (fun k _ hk => (hF k).2 hk), fun k hk => (hf k hk).imp_left (hF k).2⟩
end
theorem run_max2 {P : Program} (ts : Array TypeId) (ty : TypeId) {x y m : Int} (hm : m = max x y) (W : World) : (Builtin.max_ ts ty #[.int .i64 x, .int .i64 y]).run P W = .ok (.int .i64 m) W := by
  simp only [Builtin.max_, List.foldlM, Builtin.max2, Sem.run_bind, Sem.run_pure, Result.andThen_ok]
  subst hm
  congr 2
  split <;> omega
set_option maxRecDepth 100000 in
theorem arm_any (base d : Nat) (P : PD) (F : Nat → Prop) (q : Int) (w : World) (h : DS w base d P F) (hq : q ≤ 9223372036854775807) :
    Calls Tryz.prog 10 #[.pointer (some ⟨d, 0, none⟩), .int .i64 q] w fun e w' => e = .returned (.tuple #[]) ∧ DNext base d F w { P with armed := q.toNat } w' := by
  have hS := h
  obtain ⟨m, E, hD, hF⟩ := h
  have h0 := none_any d m P.quota P.armed P.stopped w hD.row
  have f1 := Row.free hD.row 2
  have hp := Row.put hD.row 2 (.int .i64 (q.toNat : Nat))
  have c1 : w.cell? ⟨d, 2, none⟩ = some (.int .i64 P.armed) := Row.cell hD.row 2 rfl
  have hmx : (max q 0 : Int) = (q.toNat : Nat) := by omega
  have hmy : (max 0 q : Int) = (q.toNat : Nat) := by omega
  replace hmx := hide hmx
  replace hmy := hide hmy
  replace h0 := hide h0
  replace hp := hide hp
  go_enter Tryz.func10, Tryz.ntmps10
  go_wp2_with fail
  refine h0.out.mono ?_
  rintro e w1 ⟨rfl, rfl⟩
  go_wp2_with fail
  all_goals
    first | rw [hmx.out] | rw [hmy.out]
    go_end0
    have hc : Chg (fun k => k = d) w1 (w1.setCell ⟨d, 2, none⟩ (.int .i64 (q.toNat : Nat))) := Chg.of_set w1 (a := ⟨d, 2, none⟩) _ rfl
    exact ⟨rfl, hS.next hF (E' := E) (P' := { P with armed := q.toNat }) (hD.own hc hp.out rfl hD.hq (by show q.toNat ≤ _; omega)) (hc.mono (fun k _ hk => .inl hk)) (fun k hk => .inl hk)⟩
end Go.Proofs.YtaoolpnnomhnoaaGreatDoor

/- loggia/disk: New, Size, Durable, List. -/
namespace Go.Proofs.YtaoolpnnomhnoaaGreatDoor
open Go.RowKit Go.Maps

theorem new_no (q : Int) (w : World) (hq : q < 0) :
    Calls Tryz.prog 6 #[.int .i64 q] w fun e w' => e = .returned (.tuple #[.pointer none, .int .i64 1]) ∧ w' = w := by
  go_enter Tryz.func6, Tryz.ntmps6
  go_wp2_with fail
  go_ret2
  exact ⟨rfl, rfl⟩
theorem fs_new (w : World) (base m : Nat) (hm : MapL Tryz.prog 9 w m []) (hb : base ≤ m) : FS w base m [] :=
  ⟨⟨[], hm, by simp, rfl⟩, by simp, hb, List.nodup_nil, by simp, List.Pairwise.nil, List.Pairwise.nil⟩
theorem new_yes (base : Nat) (q : Nat) (w : World) (hq : q ≤ 9223372036854775807) (hb : base ≤ w.heap.size) :
    Calls Tryz.prog 6 #[.int .i64 q] w fun e w' => ∃ d F, e = .returned (.tuple #[.pointer (some ⟨d, 0, none⟩), .int .i64 0]) ∧ DS w' base d ⟨[], q, 0, false⟩ F ∧ (∀ k, F k → w.heap.size ≤ k) ∧ Ext w w' := by
  have hm := MapL.made (P := Tryz.prog) (k := 9) w
  have hr := Row.new (w.alloc (.map #[] 0)) 56 #[.map (some w.heap.size), .int .i64 q, .int .i64 0, .bool false]
  have hm2 := hm.alloc (.cells #[.map (some w.heap.size), .int .i64 q, .int .i64 0, .bool false] 56)
  have hE : Ext w ((w.alloc (.map #[] 0)).alloc (.cells #[.map (some w.heap.size), .int .i64 q, .int .i64 0, .bool false] 56)) := ((Ext.refl w).alloc _).alloc _
  replace hr := hide hr
  have hmm := @run_makeMap Tryz.prog
  go_enter Tryz.func6, Tryz.ntmps6
  go_wp2_with fail
  go_ret2
  refine ⟨w.heap.size + 1, Foot (w.heap.size + 1) w.heap.size [], rfl, ⟨w.heap.size, [], ⟨?_, fs_new _ _ _ hm2 hb, by omega, List.Pairwise.nil, by simp, by simp, rfl, hq, by simp⟩, fun _ => Iff.rfl⟩, ?_, hE⟩
  · have h := hr.out
    have hs : (w.alloc (.map #[] 0)).heap.size = w.heap.size + 1 := by simp
    rw [hs] at h
    exact h
  · rintro k (rfl | rfl | ⟨e, he, _⟩)
    · omega
    · omega
    · cases he
set_option maxRecDepth 100000 in
set_option maxHeartbeats 1000000 in
theorem size_any (base d : Nat) (P : PD) (F : Nat → Prop) (s : List UInt8) (w : World) (h : DS w base d P F) (hs : s.length ≤ 9223372036854775807) :
    Calls Tryz.prog 57 #[.pointer (some ⟨d, 0, none⟩), str s] w fun e w' => e = .returned (.tuple #[.int .i64 (sizeM P s).1, .bool (sizeM P s).2]) ∧ w' = w := by
  obtain ⟨m, E, hD, hF⟩ := h
  have h0 := none_any d m P.quota P.armed P.stopped w hD.row
  have c0 : w.cell? ⟨d, 0, none⟩ = some (.map (some m)) := Row.cell hD.row 0 rfl
  have c3 : w.cell? ⟨d, 3, none⟩ = some (.bool P.stopped) := Row.cell hD.row 3 rfl
  replace h0 := hide h0
  cases hb : P.stopped with
  | true =>
    have hm : sizeM P s = (0, false) := by unfold sizeM; rw [hb]; rfl
    rw [hm]
    rw [hb] at c3
    replace hb := hide hb
    clear hm
    go_enter Tryz.func57, Tryz.ntmps57
    go_wp2_with fail
    refine h0.out.mono ?_
    rintro e w1 ⟨rfl, rfl⟩
    go_wp2_with fail
    go_ret2
    exact ⟨rfl, rfl⟩
  | false =>
    rw [hb] at c3
    rcases hD.lookup s hs w rfl with ⟨e0, he0, hn, hrun⟩ | ⟨hno, hrun⟩
    · have hm : sizeM P s = (e0.b.length, true) := by
        unfold sizeM
        rw [hb, ← hn, hD.find_in he0]
        rfl
      rw [hm]
      have cf : w.cell? ⟨e0.f, 0, none⟩ = some (.slice e0.A e0.b.length e0.c) := (hD.fs.ok e0 he0).row.cell 0 rfl
      obtain ⟨n, hnn⟩ : ∃ n, n = e0.b.length := ⟨_, rfl⟩
      rw [← hnn] at cf ⊢
      replace hnn := hide hnn
      replace hb := hide hb
      replace hn := hide hn
      clear hm
      go_enter Tryz.func57, Tryz.ntmps57
      go_wp2_with fail
      refine h0.out.mono ?_
      rintro e w1 ⟨rfl, rfl⟩
      go_wp2_with fail
      go_ret2
      exact ⟨rfl, rfl⟩
    · have hm : sizeM P s = (0, false) := by
        unfold sizeM
        rw [hb, hD.find_out hno]
        rfl
      rw [hm]
      replace hb := hide hb
      clear hm hno
      go_enter Tryz.func57, Tryz.ntmps57
      go_wp2_with fail
      refine h0.out.mono ?_
      rintro e w1 ⟨rfl, rfl⟩
      go_wp2_with fail
      go_ret2
      exact ⟨rfl, rfl⟩
theorem DE.fnames {w : World} {base d m : Nat} {P : PD} {E : List Ent} (h : DE w base d m P E) : sortN (E.map Ent.name) = P.L.map fname := by
  rw [sortN_eq h.up.le, ← h.pl, List.map_map]
  rfl
set_option maxRecDepth 100000 in
set_option maxHeartbeats 1000000 in
theorem list_any (base d : Nat) (P : PD) (F : Nat → Prop) (w : World) (h : DS w base d P F) :
    Calls Tryz.prog 50 #[.pointer (some ⟨d, 0, none⟩)] w fun e w' => ∃ A n c, e = .returned (.slice A n c) ∧ n = (listM P).length ∧ Cells w' A ((listM P).map str) ∧ (∀ a, A = some a → w.heap.size ≤ a.block ∧ a.block < w'.heap.size) ∧ n ≤ 1024 ∧ n ≤ c ∧ Ext w w' := by
  obtain ⟨m, E, hD, hF⟩ := h
  have h0 := none_any d m P.quota P.armed P.stopped w hD.row
  have c3 : w.cell? ⟨d, 3, none⟩ = some (.bool P.stopped) := Row.cell hD.row 3 rfl
  replace h0 := hide h0
  cases hb : P.stopped with
  | true =>
    have hm : listM P = [] := by unfold listM; rw [hb]; rfl
    rw [hm]
    rw [hb] at c3
    replace hb := hide hb
    clear hm
    go_enter Tryz.func50, Tryz.ntmps50
    go_wp2_with fail
    refine h0.out.mono ?_
    rintro e w1 ⟨rfl, rfl⟩
    go_wp2_with fail
    go_ret
    exact ⟨none, 0, 0, rfl, rfl, Cells.nil _ _, nofun, by omega, by omega, Ext.refl _⟩
  | false =>
    rw [hb] at c3
    have hm : listM P = sortN (E.map Ent.name) := by unfold listM; rw [hb, hD.fnames]; rfl
    rw [hm]
    have hnm := names_any base d m P.quota P.armed P.stopped E w hD.row hD.fs hD.cnt
    have hl : (sortN (E.map Ent.name)).length = E.length := by rw [(sortN_perm _).length_eq, List.length_map]
    have hcnt := hD.cnt
    replace hm := hide hm
    replace hb := hide hb
    replace hl := hide hl
    replace hnm := hide hnm
    go_enter Tryz.func50, Tryz.ntmps50
    go_wp2_with fail
    refine h0.out.mono ?_
    rintro e w1 ⟨rfl, rfl⟩
    go_wp2_with fail
    refine hnm.out.mono ?_
    rintro e w2 ⟨A, n, c, rfl, hn, hbuf, hE⟩
    replace hn := hide hn
    go_wp2_with fail
    go_ret
    exact ⟨A, n, c, rfl, by rw [hl.out]; exact hn.out, hbuf.cells, fun a ha => ⟨hbuf.base_le a ha, hbuf.lt a ha⟩, by rw [hn.out]; exact hcnt, hbuf.2.1, hE⟩
end Go.Proofs.YtaoolpnnomhnoaaGreatDoor

/- slices.Clone of bytes; Read. -/
namespace Go.Proofs.YtaoolpnnomhnoaaGreatDoor
open Go.RowKit Go.Maps

end Go.Proofs.YtaoolpnnomhnoaaGreatDoor

/- loggia/disk: Read. -/
namespace Go.Proofs.YtaoolpnnomhnoaaGreatDoor
open Go.RowKit Go.Maps

/-- Behind the list of one name. -/
abbrev oneW (w : World) (s : List UInt8) : World := w.alloc (.cells #[.string ⟨s.toArray⟩] 9)
theorem may_one (base d : Nat) (P : PD) (F : Nat → Prop) (s : List UInt8) (w : World) (h : DS w base d P F) (hs : s.length ≤ 9223372036854775807) :
    Calls Tryz.prog 52 #[.pointer (some ⟨d, 0, none⟩), .slice (some ⟨w.heap.size, 0, none⟩) 1 1] (oneW w s) fun e w' => e = .returned (.int .i64 (mayM [s] P.stopped)) ∧ oneW w s = w' := by
  have hE : Ext w (oneW w s) := (Ext.refl w).alloc _
  obtain ⟨m, E, hD, hF⟩ := h.ext hE
  refine (may_any d m P.quota P.armed P.stopped (some ⟨w.heap.size, 0, none⟩) 1 1 [s] (oneW w s) hD.row rfl ?_ (by omega) (by simpa using hs)).mono fun e w' h => ⟨h.1, h.2.symm⟩
  refine .inr ⟨w.heap.size, 0, rfl, fun i v hv => ?_⟩
  rw [Nat.zero_add, cell_of_row _ _ _ _ _ _ (heap_alloc_new w _)]
  simpa [str] using hv
theorem may_ok {s : List UInt8} (h : namedM s = true) : mayM [s] false = 0 := by unfold mayM; simp [h]
theorem may_stop {s : List UInt8} (h : namedM s = true) : mayM [s] true = 63 := by unfold mayM; simp [h]
theorem may_bad {s : List UInt8} (b : Bool) (h : namedM s = false) : mayM [s] b = 60 := by unfold mayM; simp [h]
/-- What Read answers. -/
def ReadPost (P : PD) (s : List UInt8) (fr n : Int) (w : World) (e : Ending) (w' : World) : Prop :=
  ∃ A k c, e = .returned (.tuple #[.slice A k c, .int .i64 (readM P s fr n).2]) ∧ Buf w' w.heap.size 5 A k c ((readM P s fr n).1.map B8) ∧ k = (readM P s fr n).1.length ∧ Ext w w'
theorem readPost_err {P : PD} {s : List UInt8} {fr n : Int} {w w' : World} {k : Nat} (h : readM P s fr n = ([], k)) (he : Ext w w') : ReadPost P s fr n w (.returned (.tuple #[.slice none 0 0, .int .i64 k])) w' := by
  unfold ReadPost
  rw [h]
  exact ⟨none, 0, 0, rfl, Buf.nil _ _ _, rfl, he⟩
set_option maxRecDepth 100000 in
set_option maxHeartbeats 1000000 in
theorem read_any (base d : Nat) (P : PD) (F : Nat → Prop) (s : List UInt8) (fr n : Int) (w : World) (h : DS w base d P F) (hs : s.length ≤ 9223372036854775807) (hf1 : -9223372036854775808 ≤ fr) (hf2 : fr ≤ 9223372036854775807)
    (hn1 : -9223372036854775808 ≤ n) (hn2 : n ≤ 9223372036854775807) :
    Calls Tryz.prog 20 #[.pointer (some ⟨d, 0, none⟩), str s, .int .i64 fr, .int .i64 n] w (ReadPost P s fr n w) := by
  have hmay := may_one base d P F s w h hs
  have hE : Ext w (oneW w s) := (Ext.refl w).alloc _
  unfold str
  cases hnm : namedM s with
  | false =>
    have hr : readM P s fr n = ([], 60) := by unfold readM; rw [hnm]; rfl
    rw [may_bad _ hnm] at hmay
    have fin := readPost_err hr hE
    replace fin := hide fin
    replace hmay := hide hmay
    clear hr hnm h
    go_enter Tryz.func20, Tryz.ntmps20
    go_wp2_with fail
    refine hmay.out.mono ?_
    rintro e w1 ⟨rfl, rfl⟩
    go_wp2_with fail
    go_ret2
    exact fin.out
  | true =>
    cases hst : P.stopped with
    | true =>
      have hr : readM P s fr n = ([], 63) := by unfold readM; rw [hnm, hst]; rfl
      rw [hst, may_stop hnm] at hmay
      have fin := readPost_err hr hE
      replace fin := hide fin
      replace hmay := hide hmay
      clear hr hnm h hst
      go_enter Tryz.func20, Tryz.ntmps20
      go_wp2_with fail
      refine hmay.out.mono ?_
      rintro e w1 ⟨rfl, rfl⟩
      go_wp2_with fail
      go_ret2
      exact fin.out
    | false =>
      rw [hst, may_ok hnm] at hmay
      obtain ⟨m, E, hD, hF⟩ := h.ext hE
      have c0 : (oneW w s).cell? ⟨d, 0, none⟩ = some (.map (some m)) := Row.cell hD.row 0 rfl
      rcases hD.lookup s hs (oneW w s) rfl with ⟨e0, he0, hn, hrun⟩ | ⟨hno, hrun⟩
      · have hfd : P.find s = some e0.pl := by rw [← hn]; exact hD.find_in he0
        have cf : (oneW w s).cell? ⟨e0.f, 0, none⟩ = some (.slice e0.A e0.b.length e0.c) := (hD.fs.ok e0 he0).row.cell 0 rfl
        have hbuf := (hD.fs.ok e0 he0).buf
        have hlen := hD.lens e0 he0
        obtain ⟨bl, hbl⟩ : ∃ x, x = e0.b.length := ⟨_, rfl⟩
        rw [← hbl] at cf hbuf hlen
        unfold str at hrun
        by_cases hbad : fr < 0 ∨ (bl : Int) < fr ∨ n < 0
        · have hr : readM P s fr n = ([], 5) := by
            unfold readM
            rw [hnm, hst, hfd]
            simp only [if_true]
            show (if fr < 0 ∨ (e0.b.length : Int) < fr ∨ n < 0 then _ else _) = _
            rw [← hbl, if_pos hbad]
          have fin := readPost_err hr hE
          replace fin := hide fin
          replace hmay := hide hmay
          replace hn := hide hn
          replace hbl := hide hbl
          clear hr hnm h hst hfd hbuf
          rcases Int.lt_or_le fr 0 with h1 | h1
          · go_enter Tryz.func20, Tryz.ntmps20
            go_wp2_with fail
            refine hmay.out.mono ?_
            rintro e w1 ⟨rfl, rfl⟩
            go_wp2_with fail
            go_ret2
            exact fin.out
          · rcases Int.lt_or_le bl fr with h2 | h2
            · go_enter Tryz.func20, Tryz.ntmps20
              go_wp2_with fail
              refine hmay.out.mono ?_
              rintro e w1 ⟨rfl, rfl⟩
              go_wp2_with fail
              go_ret2
              exact fin.out
            · have h3 : n < 0 := by omega
              go_enter Tryz.func20, Tryz.ntmps20
              go_wp2_with fail
              refine hmay.out.mono ?_
              rintro e w1 ⟨rfl, rfl⟩
              go_wp2_with fail
              go_ret2
              exact fin.out
        · obtain ⟨f, rfl⟩ : ∃ f : Nat, fr = f := ⟨fr.toNat, by omega⟩
          obtain ⟨k, rfl⟩ : ∃ k : Nat, n = k := ⟨n.toNat, by omega⟩
          have hfl : f ≤ bl := by omega
          obtain ⟨k2, hk2⟩ : ∃ k2, k2 = min k (bl - f) := ⟨_, rfl⟩
          have hr : readM P s f k = ((e0.b.drop f).take k, 0) := by
            unfold readM
            rw [hnm, hst, hfd]
            simp only [if_true]
            show (if (f : Int) < 0 ∨ (e0.b.length : Int) < f ∨ (k : Int) < 0 then _ else _) = _
            rw [← hbl, if_neg hbad]
            rfl
          have hmin := run_min2 (P := Tryz.prog) #[3, 3] 3 (x := k) (y := (bl : Int) - f) (m := (k2 : Nat)) (by omega)
          have hA0 : e0.A = none → e0.c = 0 := by
            intro hA
            rcases hbuf.2.2 with h | ⟨g, cur, hg, _⟩
            · exact h.2
            · rw [hA] at hg; cases hg
          have hAs : ∀ a, e0.A = some a → a.spot = none := by
            intro a hA
            rcases hbuf.2.2 with h | ⟨g, cur, hg, _⟩
            · rw [hA] at h; cases h.1
            · rw [hA] at hg; cases hg; rfl
          obtain ⟨A', c', hsub, hcl, hz', hbk, hkc⟩ := run_sub (t := 57) (e := 5) (fr := f) (k := k2) Tryz.underlying57 (fun W => by kernel_rfl) (n := bl) (by omega) hbuf.2.1 hA0 hAs
          have hcells : Bs (oneW w s) A' ((e0.b.drop f).take k2) := by
            have := hcl _ _ hbuf.1 hbuf.cells
            unfold Bs
            rw [List.map_take, List.map_drop]
            exact this
          have hl2 : ((e0.b.drop f).take k2).length = k2 := by rw [List.length_take, List.length_drop, ← hbl]; omega
          have htk : (e0.b.drop f).take k2 = (e0.b.drop f).take k := by
            by_cases hc : k ≤ bl - f
            · rw [hk2, Nat.min_eq_left hc]
            · rw [hk2, Nat.min_eq_right (by omega), List.take_of_length_le (i := bl - f) (by rw [List.length_drop, ← hbl]; omega), List.take_of_length_le (i := k) (by rw [List.length_drop, ← hbl]; omega)]
          have hcln := clone_any A' k2 c' ((e0.b.drop f).take k2) (oneW w s).drew hl2.symm hcells hz' (by omega)
          replace htk := hide htk
          replace hl2 := hide hl2
          replace hr := hide hr
          replace hmay := hide hmay
          replace hn := hide hn
          replace hbl := hide hbl
          replace hcln := hide hcln
          replace hk2' := hide hk2
          have hk2b : (f : Int) + k2 ≤ bl := by omega
          clear hnm h hst hfd hbuf hcl hz' hbk hcells hk2
          go_enter Tryz.func20, Tryz.ntmps20
          go_wp2_with fail
          refine hmay.out.mono ?_
          rintro e w1 ⟨rfl, rfl⟩
          go_wp2_with fail
          refine wp_region_text follows (by kernel_rfl) (by kernel_rfl) (fun K hK => ?_)
          go_wp2_with fail
          refine hcln.out.mono ?_
          rintro e w3 ⟨A3, c3, rfl, hb3, hE3⟩
          go_wp2_with fail
          refine ⟨by kernel_rfl, ?_⟩
          go_wp2_with fail
          go_ret2
          unfold ReadPost
          rw [hr.out]
          refine ⟨A3, k2, c3, rfl, ?_, ?_, hE.drew.trans hE3⟩
          · rw [← htk.out]
            exact hb3.lower hE.size
          · rw [← htk.out]
            exact hl2.out.symm
      · have hr : readM P s fr n = ([], 61) := by unfold readM; rw [hnm, hst, hD.find_out hno]; rfl
        have fin := readPost_err hr hE
        unfold str at hrun
        replace fin := hide fin
        replace hmay := hide hmay
        clear hr hnm h hst hno
        go_enter Tryz.func20, Tryz.ntmps20
        go_wp2_with fail
        refine hmay.out.mono ?_
        rintro e w1 ⟨rfl, rfl⟩
        go_wp2_with fail
        go_ret2
        exact fin.out
end Go.Proofs.YtaoolpnnomhnoaaGreatDoor

/- A file put, a file dropped. -/
namespace Go.Proofs.YtaoolpnnomhnoaaGreatDoor
open Go.RowKit Go.Maps

section
variable {w w1 : World} {base d m : Nat} {P P' : PD} {E : List Ent} {e1 : Ent}
theorem perm_ins {α : Type} (nm : α → List UInt8) (f : α) : ∀ l : List α, (insG nm f l).Perm (f :: l)
  | [] => List.Perm.refl _
  | y :: ys => by
    unfold insG
    split
    · exact List.Perm.refl _
    · exact ((perm_ins nm f ys).cons y).trans (List.Perm.swap f y ys)
theorem pw_with {α : Type} {nm : α → List UInt8} {R : α → α → Prop} (hs : ∀ {x y}, R x y → R y x) {f : α} {l : List α} (h : l.Pairwise R) (h1 : ∀ x ∈ l, nm x ≠ nm f → R f x) : (withG nm f l).Pairwise R := by
  unfold withG
  refine ((perm_ins nm f _).pairwise_iff hs).2 ?_
  rw [List.pairwise_cons]
  exact ⟨fun x hx => h1 x (mem_without.1 hx).1 (mem_without.1 hx).2, h.filter _⟩
/-- A map has just the files' entries: so it has as many. -/
theorem kv_len {L : List (Value × Value)} (hL : MapL Tryz.prog 9 w m L) (hu : Up Ent.name E) (hmem : ∀ p, p ∈ L ↔ ∃ e ∈ E, p = e.kv) : L.length = E.length := by
  have h1 : L.Nodup := nodup_of_map Prod.fst hL.nodup
  have h2 : (E.map Ent.kv).Nodup := by
    refine nodup_of_map Prod.fst ?_
    rw [List.map_map]
    have : (E.map Ent.name).Nodup := hu.nodup
    rw [List.Nodup, List.pairwise_map] at this ⊢
    exact this.imp fun h e => h (str_inj e)
  have h3 : L.Perm (E.map Ent.kv) := (List.perm_ext_iff_of_nodup h1 h2).2 fun p => by
    rw [hmem, List.mem_map]
    exact ⟨fun ⟨e, he, hp⟩ => ⟨e, he, hp.symm⟩, fun ⟨e, he, hp⟩ => ⟨e, he, hp.symm⟩⟩
  rw [h3.length_eq, List.length_map]
theorem DE.put (h : DE w base d m P E) (hrow : DRow w1 d m P'.quota P'.armed P'.stopped) (hm : ∃ L, MapL Tryz.prog 9 w1 m L ∧ ∀ p, p ∈ L ↔ ∃ e ∈ withG Ent.name e1 E, p = e.kv)
    (ho : ∀ x ∈ E, x.name ≠ e1.name → EOk w1 base x ∧ x.f ≠ e1.f ∧ ∀ a b, x.A = some a → e1.A = some b → a.block ≠ b.block) (hok : EOk w1 base e1) (hs : e1.name.length ≤ 9223372036854775807) (hl : e1.b.length ≤ 67108864)
    (hcnt : (withG Ent.name e1 E).length ≤ 1024) (hL : P'.L = withG fname e1.pl P.L) (hq : P'.quota ≤ 9223372036854775807) (ha : P'.armed ≤ 9223372036854775807) : DE w1 base d m P' (withG Ent.name e1 E) := by
  obtain ⟨L, hL1, hmem⟩ := hm
  refine ⟨hrow, ⟨⟨L, hL1, hmem, kv_len hL1 h.up.with hmem⟩, ?_, h.fs.low, h.up.with.nodup, ?_, ?_, ?_⟩, h.low, h.up.with, hcnt, ?_, ?_, hq, ha⟩
  · intro e he
    rcases mem_with.1 he with rfl | ⟨h1, h2⟩
    · exact hok
    · exact (ho e h1 h2).1
  · intro e he
    rcases mem_with.1 he with rfl | ⟨h1, h2⟩
    · exact hs
    · exact h.fs.short e h1
  · refine pw_with (fun h => h.symm) h.fs.fd fun x hx hn => ((ho x hx hn).2.1).symm
  · refine pw_with (fun h a b ha hb => (h b a hb ha).symm) h.fs.ad fun x hx hn a b ha hb => ((ho x hx hn).2.2 b a hb ha).symm
  · intro e he
    rcases mem_with.1 he with rfl | ⟨h1, h2⟩
    · exact hl
    · exact h.lens e h1
  · rw [hL, ← h.pl]
    exact map_with (nm := Ent.name) (nm' := fname) (g := Ent.pl) (fun _ => rfl) e1 E
theorem foot_with {k : Nat} (h : Foot d m (withG Ent.name e1 E) k) : Foot d m E k ∨ k = e1.f ∨ ∃ a, e1.A = some a ∧ a.block = k := by
  rcases h with h | h | ⟨e, he, h⟩
  · exact .inl (.inl h)
  · exact .inl (.inr (.inl h))
  · rcases mem_with.1 he with rfl | ⟨h1, h2⟩
    · exact .inr h
    · exact .inl (.inr (.inr ⟨e, h1, h⟩))
theorem DE.drop (h : DE w base d m P E) (s : List UInt8) (hrow : DRow w1 d m P'.quota P'.armed P'.stopped) (hm : ∃ L, MapL Tryz.prog 9 w1 m L ∧ ∀ p, p ∈ L ↔ ∃ e ∈ withoutG Ent.name s E, p = e.kv)
    (ho : ∀ x ∈ E, EOk w1 base x) (hL : P'.L = withoutG fname s P.L) (hq : P'.quota ≤ 9223372036854775807) (ha : P'.armed ≤ 9223372036854775807) : DE w1 base d m P' (withoutG Ent.name s E) := by
  obtain ⟨L, hL1, hmem⟩ := hm
  have hsub : ∀ x ∈ withoutG Ent.name s E, x ∈ E := fun x hx => (mem_without.1 hx).1
  refine ⟨hrow, ⟨⟨L, hL1, hmem, kv_len hL1 (h.up.without s) hmem⟩, fun e he => ho e (hsub e he), h.fs.low, (h.up.without s).nodup, fun e he => h.fs.short e (hsub e he), h.fs.fd.filter _, h.fs.ad.filter _⟩, h.low, h.up.without s, Nat.le_trans (len_without_le _ _) h.cnt, fun e he => h.lens e (hsub e he), ?_, hq, ha⟩
  rw [hL, ← h.pl]
  exact map_without (nm := Ent.name) (nm' := fname) (g := Ent.pl) (fun _ => rfl) s E
theorem foot_without {s : List UInt8} {k : Nat} (h : Foot d m (withoutG Ent.name s E) k) : Foot d m E k := by
  rcases h with h | h | ⟨e, he, h⟩
  · exact .inl h
  · exact .inr (.inl h)
  · exact .inr (.inr ⟨e, (mem_without.1 he).1, h⟩)
/-- What a map's block holds when a file is put. -/
theorem DE.mapPut (h : DE w base d m P E) {L L' : List (Value × Value)} (hmem : ∀ p, p ∈ L ↔ ∃ e ∈ E, p = e.kv) (hp : Put L (str e1.name) (.pointer (some ⟨e1.f, 0, none⟩)) L') : ∀ p, p ∈ L' ↔ ∃ e ∈ withG Ent.name e1 E, p = e.kv := by
  intro p
  rw [hp.mem]
  constructor
  · rintro (rfl | ⟨h1, h2⟩)
    · exact ⟨e1, mem_with.2 (.inl rfl), rfl⟩
    · obtain ⟨e, he, rfl⟩ := (hmem p).1 h1
      exact ⟨e, mem_with.2 (.inr ⟨he, fun hn => h2 (by show str e.name = str e1.name; rw [hn])⟩), rfl⟩
  · rintro ⟨e, he, rfl⟩
    rcases mem_with.1 he with rfl | ⟨h1, h2⟩
    · exact .inl rfl
    · exact .inr ⟨(hmem _).2 ⟨e, h1, rfl⟩, fun hn => h2 (str_inj hn)⟩
/-- The same map, when a file's bytes turn. -/
theorem DE.mapSame (h : DE w base d m P E) {L : List (Value × Value)} (hmem : ∀ p, p ∈ L ↔ ∃ e ∈ E, p = e.kv) {e0 : Ent} (h0 : e0 ∈ E) (hn : e1.name = e0.name) (hf : e1.f = e0.f) : ∀ p, p ∈ L ↔ ∃ e ∈ withG Ent.name e1 E, p = e.kv := by
  have hk : e1.kv = e0.kv := by unfold Ent.kv; rw [hn, hf]
  intro p
  rw [hmem]
  constructor
  · rintro ⟨e, he, rfl⟩
    by_cases hne : e.name = e1.name
    · have : e = e0 := h.up.uniq he h0 (hne.trans hn)
      subst this
      exact ⟨e1, mem_with.2 (.inl rfl), hk.symm⟩
    · exact ⟨e, mem_with.2 (.inr ⟨he, hne⟩), rfl⟩
  · rintro ⟨e, he, rfl⟩
    rcases mem_with.1 he with rfl | ⟨h1, h2⟩
    · exact ⟨e0, h0, hk⟩
    · exact ⟨e, h1, rfl⟩
theorem DE.mapDrop {L L' : List (Value × Value)} (hmem : ∀ p, p ∈ L ↔ ∃ e ∈ E, p = e.kv) {s : List UInt8} (hp : ∀ p, p ∈ L' ↔ p ∈ L ∧ p.1 ≠ str s) : ∀ p, p ∈ L' ↔ ∃ e ∈ withoutG Ent.name s E, p = e.kv := by
  intro p
  rw [hp]
  constructor
  · rintro ⟨h1, h2⟩
    obtain ⟨e, he, rfl⟩ := (hmem p).1 h1
    exact ⟨e, mem_without.2 ⟨he, fun hn => h2 (by show str e.name = str s; rw [hn])⟩, rfl⟩
  · rintro ⟨e, he, rfl⟩
    exact ⟨(hmem _).2 ⟨e, (mem_without.1 he).1, rfl⟩, fun hn => (mem_without.1 he).2 (str_inj hn)⟩
end
end Go.Proofs.YtaoolpnnomhnoaaGreatDoor

/- loggia/disk: Append, what it needs. -/
namespace Go.Proofs.YtaoolpnnomhnoaaGreatDoor
open Go.RowKit Go.Maps

theorem pw_mem {α : Type} {R : α → α → Prop} (hs : ∀ {x y}, R x y → R y x) : ∀ {l : List α}, l.Pairwise R → ∀ {x y : α}, x ∈ l → y ∈ l → x ≠ y → R x y
  | [], _, _, _, h, _, _ => by cases h
  | a :: l, h, x, y, hx, hy, hne => by
    rw [List.pairwise_cons] at h
    rcases List.mem_cons.1 hx with h1 | h1 <;> rcases List.mem_cons.1 hy with h2 | h2
    · exact (hne (h1.trans h2.symm)).elim
    · subst h1; exact h.1 y h2
    · subst h2; exact hs (h.1 x h1)
    · exact pw_mem hs h.2 h1 h2 hne
section
variable {w W : World} {base d m : Nat} {P : PD} {E : List Ent} {e x : Ent}
theorem row_ne_map {g : Nat} {t : TypeId} {cs : Array Value} {L : List (Value × Value)} (hr : Row w g t cs) (hL : MapL Tryz.prog 9 w m L) : g ≠ m := by
  rintro rfl
  obtain ⟨es, cl, hm, _⟩ := hL.ex
  have h1 : w.heap[g]? = some (.cells cs t (0, 0)) := hr
  rw [h1] at hm
  cases hm
theorem EOk.ne_map {L : List (Value × Value)} (h : EOk w base e) (hL : MapL Tryz.prog 9 w m L) : e.f ≠ m ∧ ∀ a, e.A = some a → a.block ≠ m := by
  refine ⟨row_ne_map h.row hL, ?_⟩
  rintro a ha
  rcases h.buf.2.2 with h1 | ⟨g, cur, hg, _, hr, _⟩
  · rw [ha] at h1; cases h1.1
  · rw [ha] at hg; cases hg
    exact row_ne_map hr hL
theorem EOk.fa (h : EOk w base e) (k : EOk w base x) : ∀ a, x.A = some a → e.f ≠ a.block := fun a ha he => k.buf.unlike h.row (by decide) a ha he.symm
/-- The file that Append has found, or made. -/
structure GotD (w W : World) (base : Nat) (E : List Ent) (s : List UInt8) (ok : Bool) (e0 : Ent) : Prop where
  name : e0.name = s
  has : EOk W base e0
  len : e0.b.length ≤ 67108864
  here : ok = true → e0 ∈ E
  away : ok = false → (∀ e ∈ E, e.name ≠ s) ∧ e0.b = [] ∧ e0.sure = 0 ∧ e0.A = none ∧ w.heap.size ≤ e0.f
theorem GotD.far {s : List UInt8} {ok : Bool} (h : GotD w W base E s ok e) (hD : DE w base d m P E) (hx : x ∈ E) (hn : x.name ≠ s) : x.f ≠ e.f ∧ ∀ a b, x.A = some a → e.A = some b → a.block ≠ b.block := by
  cases ok with
  | true =>
    have he := h.here rfl
    have hne : x ≠ e := fun hh => hn (by rw [hh]; exact h.name)
    exact ⟨pw_mem (fun h => h.symm) hD.fs.fd hx he hne, pw_mem (R := fun a b : Ent => ∀ x y, a.A = some x → b.A = some y → x.block ≠ y.block) (fun h a b ha hb => (h b a hb ha).symm) hD.fs.ad hx he hne⟩
  | false =>
    obtain ⟨_, _, _, hA, hf⟩ := h.away rfl
    refine ⟨fun hh => ?_, fun a b _ hb => by rw [hA] at hb; cases hb⟩
    have := (hD.fs.ok x hx).row.lt
    omega
/-- Where the file lies. -/
theorem GotD.at_ {s : List UInt8} {ok : Bool} (h : GotD w W base E s ok e) : (Foot d m E e.f ∨ w.heap.size ≤ e.f) ∧ ∀ a, e.A = some a → Foot d m E a.block := by
  cases ok with
  | true =>
    have he := h.here rfl
    exact ⟨.inl (.inr (.inr ⟨e, he, .inl rfl⟩)), fun a ha => .inr (.inr ⟨e, he, .inr ⟨a, ha, rfl⟩⟩)⟩
  | false =>
    obtain ⟨_, _, _, hA, hf⟩ := h.away rfl
    exact ⟨.inr hf, fun a ha => by rw [hA] at ha; cases ha⟩
end
/-- The end of Append, plainly: W1 is behind the counting, W2 behind the append, W3 behind the store, W4 behind the map's turn. -/
theorem append_end {w wx W1 W2 W4 : World} {base d m : Nat} {P : PD} {E : List Ent} {s b : List UInt8} {ok : Bool} {e0 : Ent} {A1 : Option Addr} {c1 : Nat}
    (hD : DE w base d m P E) (hs : s.length ≤ 9223372036854775807) (hwx : Ext w wx) (hG : GotD w wx base E s ok e0) (hcnt : ok = false → E.length < 1024)
    (hl : e0.b.length + b.length ≤ 67108864) (hrow1 : DRow W1 d m P.quota (P.armed - 1) false) (hc1 : Chg (fun k => k = d) wx W1) (hst : P.stopped = false)
    (hbuf : Buf W2 base 5 A1 (e0.b.length + b.length) c1 (e0.b.map B8 ++ b.map B8)) (hg2 : W1.grownBy W2 (Value.slice e0.A e0.b.length e0.c).ownBlock) (hA1 : A1 = e0.A ∨ A1 = some ⟨W1.heap.size, 0, none⟩)
    {L L' : List (Value × Value)} (hmem : ∀ p, p ∈ L ↔ ∃ e ∈ E, p = e.kv) (hL : MapL Tryz.prog 9 w m L)
    (hput : Put L (str s) (.pointer (some ⟨e0.f, 0, none⟩)) L') (hL4 : MapL Tryz.prog 9 W4 m L') (hg4 : (W2.setCell ⟨e0.f, 0, none⟩ (.slice A1 (e0.b.length + b.length) c1)).grownBy W4 (some m)) :
    ∃ E', DE W4 base d m (P.goes (withG fname (s, e0.b ++ b, e0.sure) P.L)) E' ∧ Chg (Foot d m E) w W4 ∧ ∀ k, Foot d m E' k → Foot d m E k ∨ w.heap.size ≤ k := by
  obtain ⟨W3, hW3⟩ : ∃ W3, W3 = W2.setCell ⟨e0.f, 0, none⟩ (.slice A1 (e0.b.length + b.length) c1) := ⟨_, rfl⟩
  rw [← hW3] at hg4
  have hDx : DE wx base d m P E := hD.chg (Chg.of_ext hwx (fun _ => False)) (fun _ h => h.elim)
  have hLx := hL.ext hwx
  have hok0 := hG.has
  have hap := hDx.apart
  have hm0 := hok0.ne_map hLx
  have hsz1 : wx.heap.size ≤ W1.heap.size := hc1.size
  have hszx : w.heap.size ≤ wx.heap.size := hwx.size
  -- which blocks may have turned
  have hd0 : d ≠ e0.f ∧ ∀ a, e0.A = some a → d ≠ a.block := ⟨Row.unlike hDx.row hok0.row (by decide), fun a ha hd => hok0.buf.unlike hDx.row (by decide) a ha hd.symm⟩
  have hown : ∀ k, (Value.slice e0.A e0.b.length e0.c).ownBlock = some k → ∃ a, e0.A = some a ∧ a.block = k := by
    intro k hk
    rcases hok0.buf.2.2 with ⟨h1, _⟩ | ⟨g, cur, hg, _⟩
    · rw [h1] at hk; cases hk
    · rw [hg] at hk ⊢
      exact ⟨_, rfl, by simpa [Value.ownBlock] using hk⟩
  have hc2 : Chg (fun k => ∃ a, e0.A = some a ∧ a.block = k) W1 W2 := Chg.of_grown hg2 fun k _ hk => hown k hk
  have hc3 : Chg (fun k => k = e0.f) W2 W3 := by rw [hW3]; exact Chg.of_set W2 (a := ⟨e0.f, 0, none⟩) _ rfl
  have hc4 : Chg (fun k => k = m) W3 W4 := Chg.of_grown hg4 fun k _ hk => by cases hk; rfl
  have hcall : Chg (fun k => k = d ∨ (∃ a, e0.A = some a ∧ a.block = k) ∨ k = e0.f ∨ k = m) wx W4 := by
    refine ((hc1.mono (S' := fun k => k = d ∨ (∃ a, e0.A = some a ∧ a.block = k) ∨ k = e0.f ∨ k = m) fun k _ h => .inl h).trans hc2 fun k _ h => .inr (.inl h)) |>.trans hc3 (fun k _ h => .inr (.inr (.inl h))) |>.trans hc4 fun k _ h => .inr (.inr (.inr h))
  obtain ⟨e1, he1⟩ : ∃ e1 : Ent, e1 = ⟨s, e0.f, e0.b ++ b, e0.sure, A1, c1⟩ := ⟨_, rfl⟩
  have hname : e1.name = s := by rw [he1]
  have hok1 : EOk W4 base e1 := by
    rw [he1]
    have hr1 : Row W1 e0.f 79 #[.slice e0.A e0.b.length e0.c, .int .i64 e0.sure] := hc1.row hok0.row fun h => hd0.1 h.symm
    have hr2 : Row W2 e0.f 79 #[.slice e0.A e0.b.length e0.c, .int .i64 e0.sure] := hc2.row hr1 fun ⟨a, ha, hk⟩ => hok0.fa hok0 a ha hk.symm
    have hr3 : Row W3 e0.f 79 #[.slice A1 (e0.b.length + b.length) c1, .int .i64 e0.sure] := by rw [hW3]; exact hr2.put 0 _
    have hb3 : Buf W3 base 5 A1 (e0.b.length + b.length) c1 (e0.b.map B8 ++ b.map B8) := by
      rw [hW3]
      exact hbuf.setCell (fun a ha => hbuf.unlike hr2 (by decide) a ha) _
    refine ⟨?_, ?_, hok0.low, ?_⟩
    · show Row W4 e0.f _ #[.slice A1 (e0.b ++ b).length c1, .int .i64 e0.sure]
      rw [List.length_append]
      exact hc4.row hr3 hm0.1
    · show Buf W4 base 5 A1 (e0.b ++ b).length c1 ((e0.b ++ b).map B8)
      rw [List.length_append, List.map_append]
      refine hb3.chg hc4 ?_
      intro a ha hk
      rcases hA1 with h | h
      · exact hm0.2 a (by rw [← h]; exact ha) hk
      · rw [h] at ha; cases ha
        have := hLx.lt
        have hk : W1.heap.size = m := hk
        omega
    · show e0.sure ≤ (e0.b ++ b).length
      rw [List.length_append]
      have := hok0.sure
      omega
  refine ⟨withG Ent.name e1 E, DE.put hD ?_ ⟨L', hL4, ?_⟩ ?_ hok1 (by rw [hname]; exact hs) ?_ ?_ ?_ hD.hq ?_, ?_, ?_⟩
  · show DRow W4 d m P.quota (P.armed - 1) P.stopped
    rw [hst]
    refine hc4.row (hc3.row (hc2.row hrow1 fun ⟨a, ha, hk⟩ => hd0.2 a ha hk.symm) fun h => hd0.1 h) hap.1
  · refine hD.mapPut hmem ?_
    rw [he1]
    exact hput
  · intro x hx hn
    rw [hname] at hn
    obtain ⟨h1, h2⟩ := hG.far hD hx hn
    have hokx := hDx.fs.ok x hx
    have hmx := hokx.ne_map hLx
    have hf : ¬ (x.f = d ∨ (∃ a, e0.A = some a ∧ a.block = x.f) ∨ x.f = e0.f ∨ x.f = m) := by
      rintro (h | ⟨a, ha, h⟩ | h | h)
      · exact (hap.2 x hx).1 h.symm
      · exact hokx.fa hok0 a ha h.symm
      · exact h1 h
      · exact hmx.1 h
    have hA : ∀ b, x.A = some b → ¬ (b.block = d ∨ (∃ a, e0.A = some a ∧ a.block = b.block) ∨ b.block = e0.f ∨ b.block = m) := by
      rintro b hb (h | ⟨a, ha, h⟩ | h | h)
      · exact (hap.2 x hx).2 b hb h.symm
      · exact h2 b a hb ha h.symm
      · exact hok0.fa hokx b hb h.symm
      · exact hmx.2 b hb h
    refine ⟨hokx.keep (hcall.block _ hokx.row.lt hf) fun a ha => hcall.block _ (hokx.buf.lt a ha) (hA a ha), by rw [he1]; exact h1, ?_⟩
    intro a a1 ha ha1
    rw [he1] at ha1
    rcases hA1 with h | h
    · exact h2 a a1 ha (by rw [← h]; exact ha1)
    · rw [h] at ha1; cases ha1
      have := hokx.buf.lt a ha
      show a.block ≠ W1.heap.size
      omega
  · rw [he1]
    show (e0.b ++ b).length ≤ _
    rw [List.length_append]
    exact hl
  · cases ok with
    | true => exact Nat.le_trans (len_with_in (hG.here rfl) (by rw [hname]; exact hG.name)) hD.cnt
    | false => exact Nat.le_trans (len_with_le _ _) (hcnt rfl)
  · rw [he1]
    rfl
  · show P.armed - 1 ≤ _
    have := hD.ha
    omega
  · obtain ⟨hf, hA⟩ := hG.at_ (d := d) (m := m)
    refine (Chg.of_ext hwx (Foot d m E)).trans hcall ?_
    rintro k hk (rfl | ⟨a, ha, rfl⟩ | rfl | rfl)
    · exact .inl rfl
    · exact hA a ha
    · rcases hf with hf | hf
      · exact hf
      · omega
    · exact .inr (.inl rfl)
  · obtain ⟨hf, hA⟩ := hG.at_ (d := d) (m := m)
    intro k hk
    rcases foot_with hk with h | h | ⟨a, ha, h⟩
    · exact .inl h
    · rw [he1] at h
      rw [h]
      exact hf
    · rw [he1] at ha
      rcases hA1 with h1 | h1
      · rw [← h]
        exact .inl (hA a (by rw [← h1]; exact ha))
      · rw [h1] at ha; cases ha
        rw [← h]
        exact .inr (by show w.heap.size ≤ W1.heap.size; omega)
end Go.Proofs.YtaoolpnnomhnoaaGreatDoor

/- loggia/disk: Append. -/
namespace Go.Proofs.YtaoolpnnomhnoaaGreatDoor
open Go.RowKit Go.Maps

theorem append_no {P : PD} {s b : List UInt8} {k : Nat} (hk : appendM P s b = (P, k)) {base d : Nat} {F : Nat → Prop} {w w1 : World} (h : DS w base d P F) (hE : Ext w w1) : ∀ e, e = Ending.returned (.int .i64 k) → e = .returned (.int .i64 (appendM P s b).2) ∧ DNext base d F w (appendM P s b).1 w1 := by
  rw [hk]
  exact fun e he => ⟨he, F, h.ext hE, Chg.of_ext hE F, fun k hk => .inl hk⟩
set_option maxRecDepth 100000 in
set_option maxHeartbeats 1000000 in
theorem append_bad (base d : Nat) (P : PD) (F : Nat → Prop) (s b : List UInt8) (B : Option Addr) (n c : Nat) (w : World) (h : DS w base d P F) (hs : s.length ≤ 9223372036854775807) (hbad : namedM s = false ∨ P.stopped = true) :
    Calls Tryz.prog 26 #[.pointer (some ⟨d, 0, none⟩), str s, .slice B n c] w fun e w' => e = .returned (.int .i64 (appendM P s b).2) ∧ DNext base d F w (appendM P s b).1 w' := by
  have hmay := may_one base d P F s w h hs
  have hE : Ext w (oneW w s) := (Ext.refl w).alloc _
  obtain ⟨k, hk, hm⟩ : ∃ k : Nat, appendM P s b = (P, k) ∧ mayM [s] P.stopped = k ∧ 0 < k := by
    unfold appendM
    cases hn : namedM s with
    | false => exact ⟨60, rfl, may_bad _ hn, by omega⟩
    | true =>
      rcases hbad with hbad | hbad
      · rw [hn] at hbad; cases hbad
      · rw [hbad]
        exact ⟨63, rfl, may_stop hn, by omega⟩
  rw [hm.1] at hmay
  have hkp := hm.2
  have fin := append_no hk h hE
  have hkd : decide ((k : Int) = 0) = false := decide_eq_false (by omega)
  clear hm hk h
  replace hmay := hide hmay
  replace fin := hide fin
  unfold str
  go_enter Tryz.func26, Tryz.ntmps26
  go_wp2_with fail
  refine hmay.out.mono ?_
  rintro e w1 ⟨rfl, rfl⟩
  go_wp2_with fail
  go_ret
  exact fin.out _ rfl
end Go.Proofs.YtaoolpnnomhnoaaGreatDoor

/- loggia/disk: Append, the walk. -/
namespace Go.Proofs.YtaoolpnnomhnoaaGreatDoor
open Go.RowKit Go.Maps

theorem GotD.plain {w W : World} {base d m : Nat} {P : PD} {E : List Ent} {s : List UInt8} {ok : Bool} {e0 : Ent} (hD : DE w base d m P E) (h : GotD w W base E s ok e0) (hn : namedM s = true) (hst : P.stopped = false) (b : List UInt8) :
    appendM P s b = if ok = false ∧ 1024 ≤ E.length then (P, 3) else putM P (s, e0.b, e0.sure) b := by
  unfold appendM
  rw [hn, hst]
  have hl : P.L.length = E.length := by rw [← hD.pl, List.length_map]
  cases ok with
  | true =>
    have : P.find s = some (s, e0.b, e0.sure) := by
      have := hD.find_in (h.here rfl)
      rw [h.name] at this
      rw [this]
      unfold Ent.pl
      rw [h.name]
    rw [this]
    simp
  | false =>
    obtain ⟨h1, h2, h3, _⟩ := h.away rfl
    rw [hD.find_out h1, hl, h2, h3]
    by_cases hc : 1024 ≤ E.length
    · simp [hc]
    · simp [hc]
set_option maxRecDepth 100000 in
set_option maxHeartbeats 2000000 in
theorem append_good (base d : Nat) (P : PD) (F : Nat → Prop) (s b : List UInt8) (B : Option Addr) (n c : Nat) (w : World) (h : DS w base d P F) (hs : s.length ≤ 9223372036854775807) (hb : Bs w B b) (hBF : b ≠ [] → ∀ a, B = some a → ¬ F a.block) (hn : n = b.length) (hn2 : n ≤ 1073741824)
    (hbase : base ≤ w.heap.size) (hnm : namedM s = true) (hst : P.stopped = false) :
    Calls Tryz.prog 26 #[.pointer (some ⟨d, 0, none⟩), str s, .slice B n c] w fun e w' => e = .returned (.int .i64 (appendM P s b).2) ∧ DNext base d F w (appendM P s b).1 w' := by
  have hmay := may_one base d P F s w h hs
  have hE : Ext w (oneW w s) := (Ext.refl w).alloc _
  rw [hst, may_ok hnm] at hmay
  have hS := h
  obtain ⟨m, E, hD0, hF⟩ := h
  have hD : DE (oneW w s) base d m P E := hD0.chg (Chg.of_ext hE (fun _ => False)) (fun _ h => h.elim)
  have c0 : (oneW w s).cell? ⟨d, 0, none⟩ = some (.map (some m)) := Row.cell hD.row 0 rfl
  obtain ⟨fp, ok, hrun, hcase⟩ : ∃ fp ok, (Instr.lookup 54 (.map (some m)) (str s) true).run Tryz.prog (oneW w s) = .ok (.tuple #[fp, .bool ok]) (oneW w s) ∧
      ((∃ e0 ∈ E, e0.name = s ∧ fp = .pointer (some ⟨e0.f, 0, none⟩) ∧ ok = true) ∨ ((∀ e ∈ E, e.name ≠ s) ∧ fp = .pointer none ∧ ok = false)) := by
    rcases hD.lookup s hs (oneW w s) rfl with ⟨e0, he0, hn, hrun⟩ | ⟨hno, hrun⟩
    · exact ⟨_, _, hrun, .inl ⟨e0, he0, hn, rfl, rfl⟩⟩
    · exact ⟨_, _, hrun, .inr ⟨hno, rfl, rfl⟩⟩
  unfold str at hrun ⊢
  replace hcase := hide hcase
  replace hmay := hide hmay
  replace hn := hide hn
  replace hst := hide hst
  replace hnm := hide hnm
  go_enter Tryz.func26, Tryz.ntmps26
  go_wp2_with fail
  refine hmay.out.mono ?_
  rintro e w1 ⟨rfl, rfl⟩
  go_upto_if 28 with (fail)
  go_cut [8, 9] (fun s8 s9 wx => ∃ e0 : Ent, s8 = .pointer (some ⟨e0.f, 0, none⟩) ∧ s9 = .bool ok ∧ Ext w wx ∧ GotD w wx base E s ok e0)
  case first =>
    rcases hcase.out with ⟨e0, he0, hn0, rfl, rfl⟩ | ⟨hno, rfl, rfl⟩
    · go_wp2_with fail
      go_meet
      case rel => exact ⟨e0, rfl, rfl, hE, hn0, hD.fs.ok e0 he0, hD.lens e0 he0, fun _ => he0, nofun⟩
    · have hr := Row.new (oneW w s) 79 #[.slice none 0 0, .int .i64 0]
      have hw1 : (oneW w s).heap.size = w.heap.size + 1 := by simp
      rw [hw1] at hr
      have hE2 := hE.alloc (.cells #[.slice none 0 0, .int .i64 0] 79)
      replace hr := hide hr
      replace hno := hide hno
      go_wp2_with fail
      go_meet
      case rel =>
        refine ⟨⟨s, w.heap.size + 1, [], 0, none, 0⟩, rfl, rfl, hE2, rfl, ⟨hr.out, Buf.nil _ _ _, ?_, by simp⟩, by simp, nofun, fun _ => ⟨hno.out, rfl, rfl, rfl, by simp⟩⟩
        show base ≤ w.heap.size + 1
        omega
  case rest =>
    obtain ⟨e0, rfl, rfl, hwx, hG⟩ := hcut
    obtain ⟨wx, rfl⟩ : ∃ wx, wx = wc := ⟨_, rfl⟩
    have hpl := hG.plain hD0 hnm.out hst.out b
    have hDx : DE wx base d m P E := hD0.chg (Chg.of_ext hwx (fun _ => False)) (fun _ h => h.elim)
    have c0x : wx.cell? ⟨d, 0, none⟩ = some (.map (some m)) := Row.cell hDx.row 0 rfl
    have c1x : wx.cell? ⟨d, 1, none⟩ = some (.int .i64 P.quota) := Row.cell hDx.row 1 rfl
    have cfx : wx.cell? ⟨e0.f, 0, none⟩ = some (.slice e0.A e0.b.length e0.c) := hG.has.row.cell 0 rfl
    have hlen0 := hG.len
    have hcn := hDx.cnt
    obtain ⟨L, hL0, hmem, hlen⟩ := hD0.fs.map
    have hL := hL0.ext hwx
    have hlr := hL.len Tryz.underlying54 3
    obtain ⟨el, hel⟩ : ∃ x, x = E.length := ⟨_, rfl⟩
    obtain ⟨bl, hbl⟩ : ∃ x, x = e0.b.length := ⟨_, rfl⟩
    rw [hlen, ← hel] at hlr
    rw [← hel] at hcn hpl
    rw [← hbl] at cfx hlen0
    have done : ∀ k : Nat, appendM P s b = (P, k) → ∀ e, e = Ending.returned (.int .i64 k) → e = .returned (.int .i64 (appendM P s b).2) ∧ DNext base d F w (appendM P s b).1 wx := fun k hk => append_no hk hS hwx
    replace done := hide done
    replace hel := hide hel
    replace hbl := hide hbl
    replace hmem := hide hmem
    replace hlen := hide hlen
    clear hrun hcase c0
    by_cases hmany : ok = false ∧ 1024 ≤ el
    · rw [if_pos hmany] at hpl
      obtain ⟨rfl, h2⟩ := hmany
      have fin := done.out _ hpl
      replace hpl := hide hpl
      replace fin := hide fin
      go_wp2_with fail
      go_ret
      exact fin.out _ rfl
    · rw [if_neg hmany] at hpl
      unfold putM at hpl
      replace hpl := hide hpl
      go_upto_region 7 with (fail)
      go_cut [31] (fun s31 wy => s31 = .bool false ∧ wy = wx)
      case first =>
        rcases (by cases ok <;> simp : ok = true ∨ ok = false) with hok | hok
        · subst hok
          go_wp2_with fail
          go_meet
          case rel => exact ⟨rfl, rfl⟩
        · subst hok
          have hel2 : el < 1024 := by
            refine Nat.lt_of_not_le fun h => hmany ⟨rfl, h⟩
          go_wp2_with fail
          go_meet
          case rel => exact ⟨congrArg Value.bool (decide_eq_false (by omega)), rfl⟩
      case rest =>
        obtain ⟨rfl, hwy⟩ := hcut
        have hwy3 := hwy.symm
        clear hwy
        subst hwy3
        rw [← hbl.out, ← hn.out] at hpl
        have hpl := hpl.out
        simp only [] at hpl
        by_cases hlong : 67108864 < bl + n
        · rw [if_pos hlong] at hpl
          have fin := done.out _ hpl
          replace hpl := hide hpl
          replace fin := hide fin
          go_wp2_with fail
          go_ret
          exact fin.out _ rfl
        · rw [if_neg hlong] at hpl
          have hlong2 : bl + n ≤ 67108864 := by omega
          have hus := hDx.used_le
          have hup := hDx.used
          have hqb := hDx.hq
          obtain ⟨q, hq⟩ : ∃ q, q = P.quota := ⟨_, rfl⟩
          obtain ⟨us, huse⟩ : ∃ us, us = usedM E := ⟨_, rfl⟩
          have hfull : fullM P n = (decide (0 < q) && decide (0 < n) && decide ((q : Int) - us < n)) := by
            unfold fullM
            rw [hq, huse, hup]
          have hcall : ∀ w0, (w0.cell? ⟨d, 1, none⟩ = some (.int .i64 P.quota) ∧ Ext wx w0) → Calls Tryz.prog 59 #[.pointer (some ⟨d, 0, none⟩)] w0 fun e w' => e = .returned (.int .i64 (usedM E)) ∧ Ext w0 w' := fun w0 hw0 => used_any base d m P.quota P.armed P.stopped E w0 (Row.ext hDx.row hw0.2) (hDx.fs.chg (Chg.of_ext hw0.2 (fun _ => False)) (fun _ h => h.elim)) (by omega)
          rw [← huse] at hus hcall
          rw [← hq] at c1x hqb hcall
          replace hup := hide hup
          replace huse := hide huse
          replace hq := hide hq
          replace hfull := hide hfull
          replace hpl := hide hpl
          replace hcall := hide hcall
          go_upto_region 11 with (fail)
          go_cut [53] (fun s53 wy => s53 = .bool (fullM P n) ∧ Ext wx wy)
          case first =>
            have hS0 : wx.drew.cell? ⟨d, 1, none⟩ = some (.int .i64 q) ∧ Ext wx wx.drew := ⟨c1x, (Ext.refl wx).drew⟩
            have hS1 : wx.cell? ⟨d, 1, none⟩ = some (.int .i64 q) ∧ Ext wx wx := ⟨c1x, Ext.refl wx⟩
            have hkp : ∀ w0 w1 : World, (w0.cell? ⟨d, 1, none⟩ = some (.int .i64 q) ∧ Ext wx w0) → Ext w0 w1 → w1.cell? ⟨d, 1, none⟩ = some (.int .i64 q) ∧ Ext wx w1 := fun w0 w1 h1 h3 => ⟨h3.cell h1.1, h1.2.trans h3⟩
            replace hkp := hide hkp
            replace hS0 := hide hS0
            replace hS1 := hide hS1
            by_cases h1 : 0 < q
            · by_cases h2 : 0 < n
              · go_region_held3 (fun w' => w'.cell? ⟨d, 1, none⟩ = some (.int .i64 q) ∧ Ext wx w') (first | exact hS0.out | exact hS1.out | exact ‹_› | exact hkp.out _ _ ‹_› ‹_›) (first | (go_at_call 59; refine (hcall.out _ ‹_›).mono ?_; rintro e w5 ⟨rfl, hE5⟩))
                go_wp2_with fail
                go_meet
                case rel =>
                  rw [hfull.out]
                  refine ⟨?_, (‹w5.cell? ⟨d, 1, none⟩ = some (.int .i64 q) ∧ Ext wx w5›).2⟩
                  rw [IntWalk.i64_in _ (by omega)]
                  simp [h1, h2]
              · obtain rfl : n = 0 := by omega
                go_quiet (fail)
                go_wp2_with fail
                go_meet
                case rel =>
                  rw [hfull.out]
                  exact ⟨by simp, (Ext.refl wx).drewN _⟩
            · obtain rfl : q = 0 := by omega
              go_quiet (fail)
              go_wp2_with fail
              go_meet
              case rel =>
                rw [hfull.out]
                exact ⟨by simp, (Ext.refl wx).drewN _⟩
          case rest =>
            obtain ⟨hs53, hwy⟩ := hcut
            subst hs53
            have hwy2 : Ext w wc := hwx.trans hwy
            cases hf : fullM P n with
            | true =>
              have hpl2 := hpl.out
              rw [hf, if_pos rfl] at hpl2
              have fin := append_no hpl2 hS hwy2
              replace hpl2 := hide hpl2
              replace hf := hide hf
              replace fin := hide fin
              go_wp2_with fail
              go_ret
              exact fin.out _ rfl
            | false =>
              have hpl2 := hpl.out
              rw [hf, if_neg (by simp)] at hpl2
              have hDy : DE wc base d m P E := hDx.chg (Chg.of_ext hwy (fun _ => False)) (fun _ h => h.elim)
              have hrowy : DRow wc d m P.quota P.armed false := by have := hDy.row; rw [hst.out] at this; exact this
              have hcl := call_any d m P.quota P.armed wc hrowy hDy.ha
              replace hf := hide hf
              replace hpl2 := hide hpl2
              replace hcl := hide hcl
              clear hpl hfull hcall c0x c1x cfx done hlr
              go_wp2_with fail
              refine hcl.out.mono ?_
              rintro e w6 ⟨rfl, hrow6, hc6, hs6⟩
              by_cases ha : P.armed = 1
              · have hpl3 := hpl2.out
                rw [if_pos ha] at hpl3 ⊢
                have hrow6' : DRow w6 d m P.stops.quota P.stops.armed P.stops.stopped := by
                  rw [ha] at hrow6
                  exact hrow6
                have fin : DNext base d F w P.stops w6 := hS.next hF (hDy.own hc6 hrow6' rfl hDy.hq (by show 0 ≤ _; omega)) ((Chg.of_ext hwy2 (Foot d m E)).trans hc6 (fun k _ hk => .inl hk)) (fun k hk => .inl hk)
                replace hpl3 := hide hpl3
                replace fin := hide fin
                replace ha := hide ha
                go_wp2_with fail
                go_ret
                rw [hpl3.out]
                exact ⟨rfl, fin.out⟩
              · have hpl3 := hpl2.out
                rw [if_neg ha] at hpl3 ⊢
                have hrow6' : DRow w6 d m P.quota (P.armed - 1) false := by
                  rw [decide_eq_false ha] at hrow6
                  exact hrow6
                have hG2 : GotD w wc base E s ok e0 := ⟨hG.name, hG.has.keep (Below.block hwy _ hG.has.row.lt) fun a haa => Below.block hwy _ (hG.has.buf.lt a haa), hG.len, hG.here, hG.away⟩
                have hap := hDy.apart
                have hLy := hL.ext hwy
                have hm0 := hG2.has.ne_map hLy
                have hd0 : d ≠ e0.f ∧ ∀ a, e0.A = some a → d ≠ a.block := ⟨Row.unlike hDy.row hG2.has.row (by decide), fun a ha hd => hG2.has.buf.unlike hDy.row (by decide) a ha hd.symm⟩
                have hr6 : Row w6 e0.f 79 #[.slice e0.A e0.b.length e0.c, .int .i64 e0.sure] := hc6.row hG2.has.row fun h => hd0.1 h.symm
                have hb6 : Buf w6 base 5 e0.A e0.b.length e0.c (e0.b.map B8) := hG2.has.buf.chg hc6 fun a haa h => hd0.2 a haa h.symm
                have hB6 : Cells w6 B (b.map B8) := by
                  by_cases hbe : b = []
                  · exact .inl (by rw [hbe]; rfl)
                  · exact hc6.cells (hb.ext hwy2) fun a haa h => hBF hbe a haa ((hF _).2 (.inl h))
                have hL6 : MapL Tryz.prog 9 w6 m L := hLy.keep (hc6.block m hLy.lt fun h => hap.1 h.symm)
                have hsz6 : base ≤ w6.heap.size := Nat.le_trans hbase (Nat.le_trans hwy2.size hc6.size)
                obtain ⟨A1, c1, W2, hrunapp, hbuf2, hg2, hA1⟩ := run_buf elemB w6 57 (c' := c) hb6 hB6 (m := n) (by rw [List.length_map]; exact hn.out.symm) (bytes_one _) (by rw [← hbl.out]; omega) hsz6
                have hown : ∀ g, (∀ a, e0.A = some a → g ≠ a.block) → some g ≠ (Value.slice e0.A e0.b.length e0.c).ownBlock := by
                  intro g hg he
                  rcases hb6.2.2 with ⟨h1, _⟩ | ⟨g', cur, h1, _⟩
                  · rw [h1] at he; cases he
                  · rw [h1] at he
                    exact hg _ h1 (by simpa [Value.ownBlock] using he)
                have hr7 : Row W2 e0.f 79 #[.slice e0.A e0.b.length e0.c, .int .i64 e0.sure] := hr6.grown hg2 (hown _ fun a haa => hG2.has.fa hG2.has a haa)
                have hrow7 : DRow W2 d m P.quota (P.armed - 1) false := Row.grown hrow6' hg2 (hown _ hd0.2)
                have hL7 : MapL Tryz.prog 9 W2 m L := hL6.grown hg2 (fun h => hown m (fun a haa hh => hm0.2 a haa hh.symm) h.symm)
                have hL8 := hL7.set_ (a := ⟨e0.f, 0, none⟩) (.slice A1 (e0.b.length + n) c1) (fun h => hm0.1 h.symm)
                obtain ⟨W4, L', hupd, hL4, hput, hg4, hs4⟩ := hL8.update keyS Tryz.underlying54 (key_str hs) (.pointer (some ⟨e0.f, 0, none⟩))
                have fin : DNext base d F w (P.goes (withG fname (s, e0.b ++ b, e0.sure) P.L)) W4 := by
                  rw [hn.out] at hbuf2 hg4
                  obtain ⟨E', h1, h2, h3⟩ := append_end hD0 hs hwy2 hG2 (fun h => Nat.lt_of_not_le fun h9 => hmany ⟨h, by rw [hel.out]; exact h9⟩) (by rw [← hbl.out, ← hn.out]; exact hlong2) hrow6' hc6 hst.out hbuf2 hg2 hA1 hmem.out hL0 hput hL4 hg4
                  exact hS.next hF h1 h2 h3
                have cf6 : w6.cell? ⟨e0.f, 0, none⟩ = some (.slice e0.A e0.b.length e0.c) := hr6.cell 0 rfl
                have c7 : W2.cell? ⟨e0.f, 0, none⟩ = some (.slice e0.A e0.b.length e0.c) := hr7.cell 0 rfl
                have f7 := hr7.free 0
                have c8 : (W2.setCell ⟨e0.f, 0, none⟩ (.slice A1 (e0.b.length + n) c1)).cell? ⟨d, 0, none⟩ = some (.map (some m)) := (Row.away hrow7 (p := ⟨e0.f, 0, none⟩) hd0.1 _).cell 0 rfl
                unfold str at hupd
                replace hpl3 := hide hpl3
                replace fin := hide fin
                replace ha := hide ha
                replace hname := hide hG.name
                replace hd0 := hide hd0
                replace hap := hide hap
                replace hm0 := hide hm0
                replace hown := hide hown
                replace hA1 := hide hA1
                replace hs4 := hide hs4
                replace hs6 := hide hs6
                replace hkk := hide hwy2
                clear hrow6 hL7 hL8 hL4 hput hg4 hB6 hb6 hbuf2 hr6 hr7 hrow7 hL6 hsz6 hg2 hc6 hLy hL hL0 hG2 hG hDy hDx hD
                go_wp2_with (at_builtin; refine wpList_app_run hrunapp (.tmp 86) (.tmp 87) rfl rfl rfl rfl rfl ?_)
                go_ret
                rw [hpl3.out]
                exact ⟨rfl, fin.out⟩
theorem append_any0 (base d : Nat) (P : PD) (F : Nat → Prop) (s b : List UInt8) (B : Option Addr) (n c : Nat) (w : World) (h : DS w base d P F) (hs : s.length ≤ 9223372036854775807) (hb : Bs w B b) (hBF : b ≠ [] → ∀ a, B = some a → ¬ F a.block) (hn : n = b.length) (hn2 : n ≤ 1073741824)
    (hbase : base ≤ w.heap.size) :
    Calls Tryz.prog 26 #[.pointer (some ⟨d, 0, none⟩), str s, .slice B n c] w fun e w' => e = .returned (.int .i64 (appendM P s b).2) ∧ DNext base d F w (appendM P s b).1 w' := by
  cases hnm : namedM s with
  | false => exact append_bad base d P F s b B n c w h hs (.inl hnm)
  | true =>
    cases hst : P.stopped with
    | true => exact append_bad base d P F s b B n c w h hs (.inr hst)
    | false => exact append_good base d P F s b B n c w h hs hb hBF hn hn2 hbase hnm hst
theorem append_any (base d : Nat) (P : PD) (F : Nat → Prop) (s b : List UInt8) (B : Option Addr) (n c : Nat) (w : World) (h : DS w base d P F) (hs : s.length ≤ 9223372036854775807) (hb : Bs w B b) (hBF : ∀ a, B = some a → ¬ F a.block) (hn : n = b.length) (hn2 : n ≤ 1073741824)
    (hbase : base ≤ w.heap.size) :
    Calls Tryz.prog 26 #[.pointer (some ⟨d, 0, none⟩), str s, .slice B n c] w fun e w' => e = .returned (.int .i64 (appendM P s b).2) ∧ DNext base d F w (appendM P s b).1 w' := append_any0 base d P F s b B n c w h hs hb (fun _ => hBF) hn hn2 hbase
end Go.Proofs.YtaoolpnnomhnoaaGreatDoor

/- loggia/disk: writes. -/
namespace Go.Proofs.YtaoolpnnomhnoaaGreatDoor
open Go.RowKit Go.Maps

/-- What a writing call leaves of the disk. -/
def WPost (S : Nat → Prop) (base d m : Nat) (E : List Ent) (P : PD) (w w' : World) : Prop := ∃ E', DE w' base d m P E' ∧ Chg S w w' ∧ ∀ k, Foot d m E' k → Foot d m E k ∨ w.heap.size ≤ k
def WS (d m : Nat) (E : List Ent) (A : Option Addr) (i : Nat) : Prop := Foot d m E i ∨ ∃ a, A = some a ∧ a.block = i
theorem WPost.same {S : Nat → Prop} {base d m : Nat} {E : List Ent} {P : PD} {w w' : World} (hD : DE w' base d m P E) (hc : Chg S w w') : WPost S base d m E P w w' := ⟨E, hD, hc, fun _ h => .inl h⟩
set_option maxRecDepth 100000 in
set_option maxHeartbeats 2000000 in
theorem writes_any (base d m b0 : Nat) (P : PD) (E : List Ent) (s : List UInt8) (ns : List (List UInt8)) (k : Nat) (caps : Array Value) (kk : PF → List PF) (A : Option Addr) (n c : Nat) (w : World) (hD : DE w base d m P E)
    (hs : s.length ≤ 9223372036854775807) (hns : ∀ x ∈ ns, x.length ≤ 9223372036854775807) (hn : n = ns.length) (hn2 : n ≤ 100) (hb0 : b0 ≤ w.heap.size) (ho : w.ownsRow b0 9 1 (.slice A n c) n (ns.map str)) (hA : ∀ a, A = some a → ¬ Foot d m E a.block)
    (hcf : ∀ (args : Array Value) (W : World), (callFunc k args).run Tryz.prog W = .ok (.enter k args) W)
    (hk : ∀ (w1 : World) (e0 : Ent), e0 ∈ E → e0.name = s → Chg (WS d m E A) w w1 → DE w1 base d m (P.goes P.L) E → Calls Tryz.prog k (#[.pointer (some ⟨e0.f, 0, none⟩)] ++ caps) w1 fun e w' => e = .returned (.tuple #[]) ∧ WPost (Foot d m E) base d m E (P.goes (kk e0.pl)) w1 w') :
    Calls Tryz.prog 61 #[.pointer (some ⟨d, 0, none⟩), str s, .func (.func k) #[] caps, .slice A n c] w fun e w' => e = .returned (.int .i64 (writesM P (ns ++ [s]) s kk).2) ∧ WPost (WS d m E A) base d m E (writesM P (ns ++ [s]) s kk).1 w w' := by
  unfold str
  have hown : ∀ g, (Value.slice A n c).ownBlock = some g → ∃ a, A = some a ∧ a.block = g := by
    intro g hg
    cases A with
    | none => cases hg
    | some a =>
      refine ⟨a, rfl, ?_⟩
      rcases ho.2 with ⟨h, _⟩ | ⟨g', cap, cur, h, _⟩
      · cases h
      · cases h
        simpa [Value.ownBlock] using hg
  replace hown := hide hown
  replace hk := hide hk
  replace hcf := hide hcf
  replace hn := hide hn
  go_enter Tryz.func61, Tryz.ntmps61
  go_wp2_with (at_builtin; refine wpList_appN (us := [.string ⟨s.toArray⟩]) elemS ho (.tmp 14) (.tmp 16) rfl rfl rfl rfl (one_of rfl) (by simp; omega) hb0 (fun A1 c1 w3 ho3 hg3 hl3 => ?_))
  have hc3 : Chg (fun i => ∃ a, A = some a ∧ a.block = i) w w3 := Chg.of_grown hg3 fun i _ hi => hown.out i hi
  have hD3 : DE w3 base d m P E := hD.chg hc3 fun i ⟨a, ha, hi⟩ hf => hA a ha (by rw [hi]; exact hf)
  have hc3' : Chg (WS d m E A) w w3 := hc3.mono fun i _ h => .inr h
  have hmay := may_any d m P.quota P.armed P.stopped A1 (n + 1) c1 (ns ++ [s]) w3 hD3.row (by rw [List.length_append, hn.out]; rfl) (by rw [List.map_append]; exact Cells.of_own ho3) (by omega) (by
    intro x hx
    rcases List.mem_append.1 hx with h | h
    · exact hns x h
    · simp at h; rw [h]; exact hs)
  have c0 : w3.cell? ⟨d, 0, none⟩ = some (.map (some m)) := Row.cell hD3.row 0 rfl
  have hl1 : [Value.string ⟨s.toArray⟩].length = 1 := rfl
  simp only [List.length_singleton] at ho3 ⊢
  clear ho3 hl3 hg3 ho hl1
  cases hall : (ns ++ [s]).all namedM with
  | false =>
    have hw : writesM P (ns ++ [s]) s kk = (P, 60) := by unfold writesM; rw [hall]; rfl
    have hm : mayM (ns ++ [s]) P.stopped = 60 := by unfold mayM; rw [hall]; rfl
    rw [hm] at hmay
    have fin : WPost (WS d m E A) base d m E P w w3 := WPost.same hD3 hc3'
    replace hw := hide hw
    replace fin := hide fin
    replace hall := hide hall
    replace hmay := hide hmay
    clear hm
    go_wp2_with fail
    refine hmay.out.mono ?_
    rintro e w1 ⟨rfl, rfl⟩
    go_wp2_with fail
    go_ret
    rw [hw.out]
    exact ⟨rfl, fin.out⟩
  | true =>
    cases hst : P.stopped with
    | true =>
      have hw : writesM P (ns ++ [s]) s kk = (P, 63) := by unfold writesM; rw [hall, hst]; rfl
      have hm : mayM (ns ++ [s]) P.stopped = 63 := by unfold mayM; rw [hall, hst]; rfl
      rw [hm] at hmay
      have fin : WPost (WS d m E A) base d m E P w w3 := WPost.same hD3 hc3'
      replace hw := hide hw
      replace fin := hide fin
      replace hall := hide hall
      replace hst := hide hst
      replace hmay := hide hmay
      clear hm
      go_wp2_with fail
      refine hmay.out.mono ?_
      rintro e w1 ⟨rfl, rfl⟩
      go_wp2_with fail
      go_ret
      rw [hw.out]
      exact ⟨rfl, fin.out⟩
    | false =>
      have hm : mayM (ns ++ [s]) P.stopped = 0 := by unfold mayM; rw [hall, hst]; rfl
      rw [hm] at hmay
      rcases hD3.lookup s hs w3 rfl with ⟨e0, he0, hn0, hrun⟩ | ⟨hno, hrun⟩
      · have hfd : P.find s = some e0.pl := by rw [← hn0]; exact hD3.find_in he0
        have hrow3 : DRow w3 d m P.quota P.armed false := by have := hD3.row; rw [hst] at this; exact this
        have hcl := call_any d m P.quota P.armed w3 hrow3 hD3.ha
        unfold str at hrun
        have hw : writesM P (ns ++ [s]) s kk = if P.armed = 1 then (P.stops, 63) else (P.goes (kk e0.pl), 0) := by unfold writesM; rw [hall, hst, hfd]; rfl
        replace hcl := hide hcl
        replace hw := hide hw
        replace hall := hide hall
        replace hst := hide hst
        replace hmay := hide hmay
        replace hn0 := hide hn0
        clear hm hfd
        go_wp2_with fail
        refine hmay.out.mono ?_
        rintro e w1 ⟨rfl, rfl⟩
        go_wp2_with fail
        refine hcl.out.mono ?_
        rintro e w6 ⟨rfl, hrow6, hc6, hs6⟩
        have hc6' : Chg (WS d m E A) w w6 := hc3'.trans hc6 fun i _ h => .inl (.inl h)
        by_cases ha : P.armed = 1
        · have hw2 := hw.out
          rw [if_pos ha] at hw2 ⊢
          have hrow6' : DRow w6 d m P.stops.quota P.stops.armed P.stops.stopped := by
            rw [ha] at hrow6
            exact hrow6
          have fin : WPost (WS d m E A) base d m E P.stops w w6 := WPost.same (hD3.own hc6 hrow6' rfl hD3.hq (by show 0 ≤ _; omega)) hc6'
          replace hw2 := hide hw2
          replace fin := hide fin
          replace ha := hide ha
          go_wp2_with fail
          go_ret
          rw [hw2.out]
          exact ⟨rfl, fin.out⟩
        · have hw2 := hw.out
          rw [if_neg ha] at hw2 ⊢
          have hrow6' : DRow w6 d m (P.goes P.L).quota (P.goes P.L).armed (P.goes P.L).stopped := by
            rw [decide_eq_false ha] at hrow6
            show DRow w6 d m P.quota (P.armed - 1) P.stopped
            rw [hst.out]
            exact hrow6
          have hDw : DE w6 base d m (P.goes P.L) E := hD3.own hc6 hrow6' rfl hD3.hq (by have := hD3.ha; show P.armed - 1 ≤ _; omega)
          have hkk := hk.out w6 e0 he0 hn0.out hc6' hDw
          replace hw2 := hide hw2
          replace ha := hide ha
          replace hs6 := hide hs6
          replace hkk := hide hkk
          have hcf2 := hcf.out (#[.pointer (some ⟨e0.f, 0, none⟩)] ++ caps) w6
          go_wp2_with fail
          refine hkk.out.mono ?_
          rintro e w7 ⟨rfl, E', h1, h2, h3⟩
          have fin : WPost (WS d m E A) base d m E (P.goes (kk e0.pl)) w w7 := ⟨E', h1, hc6'.trans h2 fun i _ h => .inl h, fun i hi => (h3 i hi).imp_right fun h => Nat.le_trans hc6'.size h⟩
          replace fin := hide fin
          go_wp2_with fail
          go_ret
          rw [hw2.out]
          exact ⟨rfl, fin.out⟩
      · have hw : writesM P (ns ++ [s]) s kk = (P, 61) := by unfold writesM; rw [hall, hst, hD3.find_out hno]; rfl
        unfold str at hrun
        have fin : WPost (WS d m E A) base d m E P w w3 := WPost.same hD3 hc3'
        replace hw := hide hw
        replace fin := hide fin
        replace hall := hide hall
        replace hst := hide hst
        replace hmay := hide hmay
        replace hno := hide hno
        clear hm
        go_wp2_with fail
        refine hmay.out.mono ?_
        rintro e w1 ⟨rfl, rfl⟩
        go_wp2_with fail
        go_ret
        rw [hw.out]
        exact ⟨rfl, fin.out⟩
end Go.Proofs.YtaoolpnnomhnoaaGreatDoor

/- loggia/disk: Sync, Rename, Remove: what they do to the file. -/
namespace Go.Proofs.YtaoolpnnomhnoaaGreatDoor
open Go.RowKit Go.Maps

section
variable {w W : World} {base d m : Nat} {P : PD} {E : List Ent} {e0 x : Ent}
theorem DE.got (h : DE w base d m P E) (he : e0 ∈ E) : GotD w w base E e0.name true e0 := ⟨rfl, h.fs.ok e0 he, h.lens e0 he, fun _ => he, nofun⟩
/-- A file whose count of durable bytes has turned. -/
theorem sync_end {L : List PF} (hD : DE w base d m (P.goes P.L) E) (he : e0 ∈ E) :
    WPost (Foot d m E) base d m E (P.goes (withG fname (e0.name, e0.b, e0.b.length) P.L)) w (w.setCell ⟨e0.f, 1, none⟩ (.int .i64 e0.b.length)) := by
  obtain ⟨W, hW⟩ : ∃ W, W = w.setCell ⟨e0.f, 1, none⟩ (.int .i64 e0.b.length) := ⟨_, rfl⟩
  rw [← hW]
  have hc : Chg (fun k => k = e0.f) w W := by rw [hW]; exact Chg.of_set w (a := ⟨e0.f, 1, none⟩) _ rfl
  have hG := hD.got he
  have hok := hD.fs.ok e0 he
  obtain ⟨e1, he1⟩ : ∃ e1 : Ent, e1 = { e0 with sure := e0.b.length } := ⟨_, rfl⟩
  obtain ⟨L, hL, hmem, _⟩ := hD.fs.map
  have hm0 := hok.ne_map hL
  have hok1 : EOk W base e1 := by
    rw [he1]
    refine ⟨?_, hok.buf.chg hc fun a ha h => hok.fa hok a ha h.symm, hok.low, Nat.le_refl _⟩
    rw [hW]
    exact hok.row.put 1 _
  refine ⟨withG Ent.name e1 E, hD.put ?_ ⟨L, hL.keep (hc.block m hL.lt fun h => hm0.1 h.symm), hD.mapSame hmem he (by rw [he1]) (by rw [he1])⟩ ?_ hok1 (by rw [he1]; exact hD.fs.short e0 he) (by rw [he1]; exact hD.lens e0 he) ?_ ?_ hD.hq hD.ha, hc.mono fun k _ hk => .inr (.inr ⟨e0, he, .inl hk⟩), ?_⟩
  · exact hc.row hD.row (Row.unlike hD.row hok.row (by decide))
  · intro x hx hn
    rw [he1] at hn
    obtain ⟨h1, h2⟩ := hG.far hD hx hn
    have hokx := hD.fs.ok x hx
    refine ⟨hokx.keep (hc.block _ hokx.row.lt h1) fun a ha => hc.block _ (hokx.buf.lt a ha) fun h => hok.fa hokx a ha h.symm, by rw [he1]; exact h1, by rw [he1]; exact h2⟩
  · refine Nat.le_trans (len_with_in he (by rw [he1])) hD.cnt
  · rw [he1]
    rfl
  · intro k hk
    rcases foot_with hk with h | h | ⟨a, ha, h⟩
    · exact .inl h
    · rw [he1] at h
      exact .inl (.inr (.inr ⟨e0, he, .inl h⟩))
    · rw [he1] at ha
      exact .inl (.inr (.inr ⟨e0, he, .inr ⟨a, ha, h⟩⟩))
/-- A file dropped from the map. -/
theorem drop_end {s : List UInt8} (hD : DE w base d m (P.goes P.L) E) {L L' : List (Value × Value)} (hmem : ∀ p, p ∈ L ↔ ∃ e ∈ E, p = e.kv) (hL : MapL Tryz.prog 9 w m L)
    (hL' : MapL Tryz.prog 9 W m L') (hp : ∀ p, p ∈ L' ↔ p ∈ L ∧ p.1 ≠ str s) (hg : w.grownBy W (some m)) :
    WPost (Foot d m E) base d m E (P.goes (withoutG fname s P.L)) w W ∧ DE W base d m (P.goes (withoutG fname s P.L)) (withoutG Ent.name s E) ∧ Chg (fun k => k = m) w W := by
  have hc : Chg (fun k => k = m) w W := Chg.of_grown hg fun k _ hk => by cases hk; rfl
  have hDE : DE W base d m (P.goes (withoutG fname s P.L)) (withoutG Ent.name s E) := hD.drop s (hc.row hD.row hD.apart.1) ⟨L', hL', DE.mapDrop hmem hp⟩ (fun x hx => by
    have hokx := hD.fs.ok x hx
    have hmx := hokx.ne_map hL
    exact hokx.keep (hc.block _ hokx.row.lt hmx.1) fun a ha => hc.block _ (hokx.buf.lt a ha) (hmx.2 a ha)) rfl hD.hq hD.ha
  exact ⟨⟨_, hDE, hc.mono fun k _ hk => .inr (.inl hk), fun k hk => .inl (foot_without hk)⟩, hDE, hc⟩
/-- A file dropped, and put under another name. -/
theorem rename_end {w1 w2 : World} {s t : List UInt8} (hD : DE w base d m (P.goes P.L) E) (he : e0 ∈ E) (hn : e0.name = s) (ht : t.length ≤ 9223372036854775807) {L L1 L2 : List (Value × Value)} (hmem : ∀ p, p ∈ L ↔ ∃ e ∈ E, p = e.kv) (hL : MapL Tryz.prog 9 w m L)
    (hL1 : MapL Tryz.prog 9 w1 m L1) (hp : ∀ p, p ∈ L1 ↔ p ∈ L ∧ p.1 ≠ str s) (hg1 : w.grownBy w1 (some m)) (hL2 : MapL Tryz.prog 9 w2 m L2) (hput : Put L1 (str t) (.pointer (some ⟨e0.f, 0, none⟩)) L2) (hg2 : w1.grownBy w2 (some m)) :
    WPost (Foot d m E) base d m E (P.goes (withG fname (t, e0.b, e0.sure) (withoutG fname s P.L))) w w2 := by
  obtain ⟨_, hD1, hc1⟩ := drop_end hD hmem hL hL1 hp hg1
  have hc2 : Chg (fun k => k = m) w1 w2 := Chg.of_grown hg2 fun k _ hk => by cases hk; rfl
  have hmem1 := DE.mapDrop hmem hp
  have hG := hD.got he
  have hok := hD.fs.ok e0 he
  have hm0 := hok.ne_map hL
  obtain ⟨e1, he1⟩ : ∃ e1 : Ent, e1 = { e0 with name := t } := ⟨_, rfl⟩
  have hc : Chg (fun k => k = m) w w2 := hc1.trans hc2 fun _ _ h => h
  have hok1 : EOk w2 base e1 := by
    rw [he1]
    exact ⟨hc.row hok.row hm0.1, hok.buf.chg hc fun a ha h => hm0.2 a ha h, hok.low, hok.sure⟩
  refine ⟨withG Ent.name e1 (withoutG Ent.name s E), hD1.put ?_ ⟨L2, hL2, hD1.mapPut hmem1 ?_⟩ ?_ hok1 (by rw [he1]; exact ht) (by rw [he1]; exact hD.lens e0 he) ?_ ?_ hD.hq hD.ha, hc.mono fun k _ hk => .inr (.inl hk), ?_⟩
  · exact hc.row hD.row hD.apart.1
  · rw [he1]
    exact hput
  · intro x hx hxn
    obtain ⟨hxE, hxs⟩ := mem_without.1 hx
    obtain ⟨h1, h2⟩ := hG.far hD hxE (by rw [hn]; exact hxs)
    have hokx := hD.fs.ok x hxE
    have hmx := hokx.ne_map hL
    refine ⟨hokx.keep (hc.block _ hokx.row.lt hmx.1) fun a ha => hc.block _ (hokx.buf.lt a ha) (hmx.2 a ha), by rw [he1]; exact h1, by rw [he1]; exact h2⟩
  · have h1 := len_with_le (nm := Ent.name) e1 (withoutG Ent.name s E)
    have h2 := len_without_lt (nm := Ent.name) he hn
    have := hD.cnt
    omega
  · rw [he1]
    rfl
  · intro k hk
    rcases foot_with hk with h | h | ⟨a, ha, h⟩
    · exact .inl (foot_without h)
    · rw [he1] at h
      exact .inl (.inr (.inr ⟨e0, he, .inl h⟩))
    · rw [he1] at ha
      exact .inl (.inr (.inr ⟨e0, he, .inr ⟨a, ha, h⟩⟩))
end
end Go.Proofs.YtaoolpnnomhnoaaGreatDoor

