/- loggia/manifest: (*reader).parts. -/
import Derived.Test.YtijnomopcpgikaaDoorMdA
import Derived.Test.YtijnomopcpgikaaDoorApp
namespace Go.Proofs.YtijnomopcpgikaaDoor
open Go.RowKit

def partsM : Nat → Bool → List UInt8 → Bool × List Pt
  | 0, bad, _ => (bad, [])
  | k + 1, bad, L => ((partsM k (numsM bad L 6).1 (numsM bad L 6).2.1).1, mkPt (numsM bad L 6).2.2 :: (partsM k (numsM bad L 6).1 (numsM bad L 6).2.1).2)
theorem partsM_bad : ∀ (k : Nat) (L : List UInt8), (partsM k true L).1 = true
  | 0, _ => rfl
  | k + 1, L => by
    unfold partsM
    rw [numsM_bad]
    exact partsM_bad k L
theorem partsM_ok : ∀ (k : Nat) (L : List UInt8) (ps : List Pt) (r : List UInt8), getPts k L = .ok (ps, r) → partsM k false L = (false, ps)
  | 0, L, ps, r, h => by
    unfold getPts at h
    injection h with h
    injection h with h1 h2
    subst h1
    rfl
  | k + 1, L, ps, r, h => by
    unfold getPts at h
    split at h
    · cases h
    · rename_i ns r1 hg
      split at h
      · cases h
      · rename_i ps1 r2 hr
        injection h with h
        injection h with h1 h2
        subst h1
        unfold partsM
        rw [numsM_ok hg]
        simp only
        rw [partsM_ok k r1 ps1 r2 hr]
theorem partsM_err : ∀ (k : Nat) (L : List UInt8) (x : Nat), getPts k L = .error x → (partsM k false L).1 = true
  | 0, L, x, h => by unfold getPts at h; cases h
  | k + 1, L, x, h => by
    unfold getPts at h
    unfold partsM
    split at h
    · rename_i e hg
      rw [numsM_err hg]
      exact partsM_bad k L
    · rename_i ns r1 hg
      rw [numsM_ok hg]
      simp only
      split at h
      · rename_i e hr
        exact partsM_err k r1 e hr
      · cases h
theorem numsM_len (bad : Bool) (L : List UInt8) (k : Nat) : (numsM bad L k).2.2.length = k ∧ (∀ n ∈ (numsM bad L k).2.2, -9223372036854775808 ≤ n ∧ n ≤ 9223372036854775807) ∧ (numsM bad L k).2.1.length ≤ L.length := by
  have hz : ∀ n ∈ List.replicate k (0 : Int), -9223372036854775808 ≤ n ∧ n ≤ 9223372036854775807 := fun n hn => by
    rw [List.eq_of_mem_replicate hn]
    omega
  cases bad with
  | true => rw [numsM_bad]; exact ⟨by simp, hz, Nat.le_refl _⟩
  | false =>
    cases hg : getAll k L with
    | error x => rw [numsM_err hg]; exact ⟨by simp, hz, Nat.le_refl _⟩
    | ok p =>
      obtain ⟨ns, r⟩ := p
      rw [numsM_ok hg]
      obtain ⟨h1, h2, q, h3⟩ := getAll_len k L ns r hg
      refine ⟨h1, h2, ?_⟩
      rw [h3, List.length_append]
      exact Nat.le_add_left _ _
theorem partsM_in : ∀ (k : Nat) (bad : Bool) (L : List UInt8), (partsM k bad L).2.length = k ∧ ∀ p ∈ (partsM k bad L).2, p.Ok
  | 0, _, _ => ⟨rfl, nofun⟩
  | k + 1, bad, L => by
    obtain ⟨h1, h2⟩ := partsM_in k (numsM bad L 6).1 (numsM bad L 6).2.1
    unfold partsM
    refine ⟨by rw [List.length_cons, h1], fun p hp => ?_⟩
    rcases List.mem_cons.1 hp with rfl | hp
    · exact mkPt_ok (numsM_len bad L 6).2.1
    · exact h2 p hp
/-- The partitions that the reader reads. -/
def partsP (bad : Bool) (L : List UInt8) : Bool × List Pt := match getV 0 L with
  | .error _ => (true, [])
  | .ok (n, r) => if bad = true ∨ 512 < n then (true, []) else partsM n false r
theorem six_of {l : List Int} (h : l.length = 6) : ∃ a0 a1 a2 a3 a4 a5, l = [a0, a1, a2, a3, a4, a5] := by
  match l, h with
  | [a0, a1, a2, a3, a4, a5], _ => exact ⟨a0, a1, a2, a3, a4, a5, rfl⟩
theorem partsM_step {v i : Nat} {b b3 : Bool} {L L3 : List UInt8} {ns : List Int} {ps : List Pt} {Z : Bool × List Pt} (h : Z = ((partsM (v - i) b L).1, ps ++ (partsM (v - i) b L).2)) (hi : i < v) (hq : (b3, L3, ns) = numsM b L 6) :
    Z = ((partsM (v - (i + 1)) b3 L3).1, (ps ++ [mkPt ns]) ++ (partsM (v - (i + 1)) b3 L3).2) := by
  obtain ⟨k, hk⟩ : ∃ k, v - i = k + 1 := ⟨v - i - 1, by omega⟩
  rw [h, hk, show v - (i + 1) = k by omega]
  conv => lhs; unfold partsM
  rw [← hq]
  simp
theorem pcells_snoc (ps : List Pt) (p : Pt) : pcells (ps ++ [p]) = pcells ps ++ p.cells := by unfold pcells; rw [List.flatMap_append]; simp
set_option maxRecDepth 100000 in
theorem elemP : Elem Tryd.prog 22 40 7 56 := ⟨Tryd.underlying22, ⟨_, _, rfl, rfl, rfl, rfl, rfl⟩, by omega, by omega⟩
def ReadP (w0 w : World) (rb : Nat) (x3 x4 x5 x6 x7 : Value) (res : Bool × List Pt) (w' : World) : Prop :=
  ∃ A c P cp, ∃ L : List UInt8, Row w' rb 64 #[.slice A L.length c, .bool res.1, .slice P res.2.length cp, x3, x4, x5, x6, x7] ∧ w'.ownsRow w.heap.size 40 7 (.slice P res.2.length cp) res.2.length (pcells res.2) ∧ Chg (fun b => b = rb) w w'
set_option maxRecDepth 100000 in
set_option maxHeartbeats 4000000 in
theorem parts_any (A : Option Addr) (n c rb : Nat) (bad : Bool) (L : List UInt8) (x3 x4 x5 x6 x7 : Value) (w0 w : World) (h : In8 w0 A n c L) (hw : Ext w0 w) (hle : n ≤ 1000000000) (hrb : w0.heap.size ≤ rb)
    (hr : Row w rb 64 #[.slice A n c, .bool bad, .slice none 0 0, x3, x4, x5, x6, x7]) :
    Calls Tryd.prog 32 #[.pointer (some ⟨rb, 0, none⟩)] w fun e w' => e = .returned (.tuple #[]) ∧ ReadP w0 w rb x3 x4 x5 x6 x7 (partsP bad L) w' := by
  obtain rfl := h.len
  have q0 : w.cell? ⟨rb, 0, none⟩ = some (.slice A L.length c) := hr.cell 0 rfl
  have hlt := hr.lt
  have hgv := get_any A L.length c L w0 w h hw hle
  replace hgv := hide hgv
  have hone : ∀ w1, Ext w w1 → partsP bad L = (true, []) → ReadP w0 w rb x3 x4 x5 x6 x7 (partsP bad L) (w1.setCell ⟨rb, 1, none⟩ (.bool true)) := by
    intro w1 hE1 hn
    rw [hn]
    refine ⟨A, c, none, 0, L, (hr.ext hE1).put 1 (.bool true), ⟨rfl, .inl ⟨rfl, rfl⟩⟩, ?_⟩
    exact (Chg.of_ext hE1 _).trans (Chg.of_set w1 (a := ⟨rb, 1, none⟩) (.bool true) (S := fun b => b = rb) rfl) fun _ _ h => h
  replace hone := hide hone
  cases hg : getV 0 L with
  | error x =>
    have hpp : partsP bad L = (true, []) := by unfold partsP; rw [hg]
    rw [hg] at hgv
    have hx := getV_err L 0 x hg
    have hx0 : ((x : Int) != 0) = true := by simp; omega
    replace hpp := hide hpp
    clear hg hx
    go_enter Tryd.func32, Tryd.ntmps32
    go_wp2_with fail
    refine hgv.out.mono ?_
    rintro e w1 ⟨hE1, rfl⟩
    have r1 := hr.ext hE1
    have y1 : w1.cell? ⟨rb, 1, none⟩ = some (.bool bad) := r1.cell 1 rfl
    have hlt1 := r1.lt
    have hfr1 := r1.free 1
    go_wp2_with fail
    all_goals
      first
        | (go_end0; exact ⟨rfl, hone.out _ hE1 hpp.out⟩)
        | exact bodyPost_ret (v := .tuple #[]) (by simp [results, Tryd.results32, go_sem]) rfl ⟨rfl, hone.out _ hE1 hpp.out⟩
  | ok p =>
    obtain ⟨v, r⟩ := p
    rw [hg] at hgv
    have hv := getV_lt64 hg
    have hrl : r.length ≤ 1000000000 := by
      obtain ⟨_, _, q, hq, _⟩ := getV_lt L 0 v r hg
      rw [hq, List.length_append] at hle
      omega
    by_cases hb5 : bad = true ∨ 512 < v
    · have hpp : partsP bad L = (true, []) := by unfold partsP; rw [hg]; simp only; rw [if_pos hb5]
      replace hpp := hide hpp
      clear hg
      have hb5' : bad = false → 512 < v := fun h => by rcases hb5 with h2 | h2; rw [h] at h2; cases h2; exact h2
      replace hb5' := hide hb5'
      clear hb5
      cases bad with
      | true =>
        go_enter Tryd.func32, Tryd.ntmps32
        go_wp2_with fail
        refine hgv.out.mono ?_
        rintro e w1 ⟨hE1, A1, c1, rfl, hin1⟩
        have r1 := hr.ext hE1
        have y1 : w1.cell? ⟨rb, 1, none⟩ = some (.bool true) := r1.cell 1 rfl
        have hlt1 := r1.lt
        have hfr1 := r1.free 1
        go_wp2_with fail
        all_goals
          first
            | (go_end0; exact ⟨rfl, hone.out _ hE1 hpp.out⟩)
            | exact bodyPost_ret (v := .tuple #[]) (by simp [results, Tryd.results32, go_sem]) rfl ⟨rfl, hone.out _ hE1 hpp.out⟩
      | false =>
        have hv5 := hb5'.out rfl
        go_enter Tryd.func32, Tryd.ntmps32
        go_wp2_with fail
        refine hgv.out.mono ?_
        rintro e w1 ⟨hE1, A1, c1, rfl, hin1⟩
        have r1 := hr.ext hE1
        have y1 : w1.cell? ⟨rb, 1, none⟩ = some (.bool false) := r1.cell 1 rfl
        have hlt1 := r1.lt
        have hfr1 := r1.free 1
        go_wp2_with fail
        all_goals
          first
            | (go_end0; exact ⟨rfl, hone.out _ hE1 hpp.out⟩)
            | exact bodyPost_ret (v := .tuple #[]) (by simp [results, Tryd.results32, go_sem]) rfl ⟨rfl, hone.out _ hE1 hpp.out⟩
    · have hpp : partsP bad L = partsM v false r := by unfold partsP; rw [hg]; simp only; rw [if_neg hb5]
      have hbf : bad = false := by cases bad with | false => rfl | true => exact absurd (.inl rfl) hb5
      have hv5 : v ≤ 512 := by omega
      subst hbf
      replace hpp := hide hpp
      clear hg hone hb5
      go_enter Tryd.func32, Tryd.ntmps32
      go_wp2_with fail
      refine hgv.out.mono ?_
      rintro e w1 ⟨hE1, A1, c1, rfl, hin1⟩
      have r1 := hr.ext hE1
      have y1 : w1.cell? ⟨rb, 1, none⟩ = some (.bool false) := r1.cell 1 rfl
      have y0 : w1.cell? ⟨rb, 0, none⟩ = some (.slice A L.length c) := r1.cell 0 rfl
      have hlt1 := r1.lt
      have hfr0 := r1.free 0
      have r2 := hide (show Row (w1.setCell ⟨rb, 0, none⟩ (.slice A1 r.length c1)) rb 64 #[.slice A1 r.length c1, .bool false, .slice none 0 0, x3, x4, x5, x6, x7] from r1.put 0 _)
      have hc2 := hide ((Chg.of_ext hE1 (fun b => b = rb)).trans (Chg.of_set w1 (a := ⟨rb, 0, none⟩) (.slice A1 r.length c1) (S := fun b => b = rb) rfl) fun _ _ h => h)
      go_wp2_with fail
      go_loopw [40] (fun s40 wr => ∃ (i : Nat) (bad2 : Bool) (L2 : List UInt8) (ps : List Pt) (A2 P : Option Addr) (c3 cp : Nat), s40 = .int .u64 i ∧ i ≤ v ∧ L2.length ≤ 1000000000 ∧ Hid (partsM v false r = ((partsM (v - i) bad2 L2).1, ps ++ (partsM (v - i) bad2 L2).2)) ∧ Hid (ps.length = i) ∧ Hid (Row wr rb 64 #[.slice A2 L2.length c3, .bool bad2, .slice P i cp, x3, x4, x5, x6, x7]) ∧ Hid (In8 w0 A2 L2.length c3 L2) ∧ Hid (wr.ownsRow w.heap.size 40 7 (.slice P i cp) i (pcells ps)) ∧ Hid (Chg (fun b => b = rb) w wr)) (fun s40 _ => v - (intOf s40).toNat)
      case atStart => exact ⟨0, false, r, [], A1, none, c1, 0, rfl, by omega, hrl, hide (by simp), hide rfl, r2, hide hin1, hide ⟨rfl, .inl ⟨rfl, rfl⟩⟩, hc2⟩
      case round =>
        obtain ⟨i, bad2, L2, ps, A2, P, c3, cp, rfl, hi, hL2, hpm, hpl, hrw, hin2, hown, hch⟩ := hrel
        by_cases hiv : i < v
        · have hE2 : Ext w0 wr := hw.chg hch.out fun k hk h => by omega
          have hnum := numbers_any A2 L2.length c3 6 rb bad2 L2 (.slice P i cp) x3 x4 x5 x6 x7 w0 wr hin2.out hE2 hL2 hrb (.inr rfl) hrw.out
          obtain ⟨n1, n2, n3⟩ := numsM_len bad2 L2 6
          obtain ⟨a0, a1, a2, a3, a4, a5, hns⟩ := six_of n1
          obtain ⟨q, hq⟩ : ∃ q, q = numsM bad2 L2 6 := ⟨_, rfl⟩
          rw [← hq] at hnum hns n3
          obtain ⟨b3, L3, ns⟩ := q
          simp only at hns n3
          subst hns
          replace hnum := hide hnum
          have hq' := hide hq
          clear n1 n2 hq
          have hlr := hrw.out.lt
          go_wp2_with fail
          refine hnum.out.mono ?_
          rintro e w2 ⟨A3, c4, B, cb, rfl, hr2, hin3, hbu, hch2⟩
          obtain ⟨g, o, rfl, hcc⟩ := hbu.cells.at_ (by simp)
          have z0 : w2.cell? ⟨g, o, none⟩ = some (.int .i64 a0) := hcc 0 _ rfl
          have z1 : w2.cell? ⟨g, o + 1, none⟩ = some (.int .i64 a1) := hcc 1 _ rfl
          have z2 : w2.cell? ⟨g, o + 2, none⟩ = some (.int .i64 a2) := hcc 2 _ rfl
          have z3 : w2.cell? ⟨g, o + 3, none⟩ = some (.int .i64 a3) := hcc 3 _ rfl
          have z4 : w2.cell? ⟨g, o + 4, none⟩ = some (.int .i64 a4) := hcc 4 _ rfl
          have z5 : w2.cell? ⟨g, o + 5, none⟩ = some (.int .i64 a5) := hcc 5 _ rfl
          go_wp2_with fail
          refine wp_region_text follows (by kernel_rfl) (by kernel_rfl) (fun K hK => ?_)
          go_wp2_with fail
          refine ⟨by kernel_rfl, ?_⟩
          go_wp2_with fail
          obtain ⟨w3, hw3⟩ : ∃ w3, w3 = (w2.alloc (.cells #[.int .i64 a0, .int .i64 a1, .int .i64 a2, .int .i64 a3, .int .i64 a4, .int .i64 a5, .int .i64 (wrap64 (wrap64 (a5 - a4) + 1))] 40)).drew := ⟨_, rfl⟩
          have hE3 : Ext w2 w3 := by rw [hw3]; exact ((Ext.refl w2).alloc _).drew
          have hpr : Row w3 w2.heap.size 40 #[.int .i64 a0, .int .i64 a1, .int .i64 a2, .int .i64 a3, .int .i64 a4, .int .i64 a5, .int .i64 (wrap64 (wrap64 (a5 - a4) + 1))] := by rw [hw3]; exact (Row.new w2 _ _).drew
          have hstep := hide (partsM_step hpm.out hiv hq'.out)
          have hrbw : rb < w.heap.size := hlt
          have hnrb : ∀ g, (Value.slice P i cp).ownBlock = some g → ¬ g = rb := fun g hg e => by
            obtain ⟨_, _, hb⟩ := owns_row hown.out hg
            omega
          have hown3 := hE3.owns (hch2.owns hown.out hnrb)
          have hr3 := hr2.ext hE3
          have hch3 := hide ((hch.out.trans hch2 fun _ _ h => h).trans (Chg.of_ext hE3 (fun b => b = rb)) fun _ _ h => h)
          rw [← hw3]
          clear hw3 z0 z1 z2 z3 z4 z5 hcc hbu hq' hpm hown hrw
          have p0 := hpr.cell 0 rfl
          have p1 := hpr.cell 1 rfl
          have p2 := hpr.cell 2 rfl
          have p3 := hpr.cell 3 rfl
          have p4 := hpr.cell 4 rfl
          have p5 := hpr.cell 5 rfl
          have p6 := hpr.cell 6 rfl
          have q2 : w3.cell? ⟨rb, 2, none⟩ = some (.slice P i cp) := hr3.cell 2 rfl
          have hown4 := hide (((Ext.refl w3).drew).owns hown3)
          have hr4 := hide (hr3.drew)
          have hsz3 := hch3.out.size
          have hne3 := hide hnrb
          clear hown3 hpr hr3 hnrb hr2 hch2 hE3
          refine wp_region_text follows (by kernel_rfl) (by kernel_rfl) (fun K hK => ?_)
          go_wp2_with (at_builtin; refine wpList_appS (m := 1) elemP hown4.out (.tmp 77) (.tmp 79) rfl rfl rfl rfl rfl (one_of rfl) (by omega) hsz3 (fun A4 c5 w4 ho5 hg5 hl5 => ?_); have r5 := Row.grown hr4.out hg5 (fun e => hne3.out rb e.symm rfl); have y2 : w4.cell? ⟨rb, 2, none⟩ = some (.slice P i cp) := r5.cell 2 rfl; have f2 := r5.free 2; have l5 := r5.lt; have r6 := hide r5; have hg6 := hide hg5; have ho6 := hide ho5; clear r5 hg5 ho5 hl5)
          refine ⟨by kernel_rfl, ?_⟩
          go_wp2_with fail
          go_roundw
          case rel =>
            have hpt : (mkPt [a0, a1, a2, a3, a4, a5]).cells = [.int .i64 a0, .int .i64 a1, .int .i64 a2, .int .i64 a3, .int .i64 a4, .int .i64 a5, .int .i64 (wrap64 (wrap64 (a5 - a4) + 1))] := rfl
            have hne4 : (Value.slice A4 (i + 1) c5).ownBlock ≠ some rb := fun e => by
              obtain ⟨_, _, hb⟩ := owns_row ho6.out e
              omega
            refine ⟨i + 1, b3, L3, ps ++ [mkPt [a0, a1, a2, a3, a4, a5]], A3, A4, c4, c5, by go_num, by omega, by omega, hstep, hide (by rw [List.length_append, hpl.out]; rfl), hide (r6.out.put 2 _), hide hin3, hide ?_, hide ?_⟩
            · rw [pcells_snoc, hpt]
              exact owns_set ho6.out hne4 _
            · have hgr : Chg (fun b => b = rb ∨ (Value.slice P i cp).ownBlock = some b) w3.drew (w4.setCell ⟨rb, 2, none⟩ (.slice A4 (i + 1) c5)) :=
                Chg.trans (S' := fun b => b = rb ∨ (Value.slice P i cp).ownBlock = some b) (Chg.of_grown hg6.out fun k _ e => .inr e) (Chg.of_set w4 (a := ⟨rb, 2, none⟩) _ (.inl rfl)) fun _ _ h => h
              refine (hch3.out.trans (Chg.of_ext (Ext.refl w3).drew (fun b => b = rb)) fun _ _ h => h).trans hgr fun k hk hh => ?_
              rcases hh with hh | hh
              · exact hh
              · obtain ⟨_, _, hb⟩ := owns_row hown4.out hh
                omega
          case measure => simp [intOf]; omega
        · obtain rfl : i = v := by omega
          have hz := hpm.out
          rw [Nat.sub_self, show partsM 0 bad2 L2 = (bad2, []) from rfl, List.append_nil] at hz
          replace hz := hide hz
          go_wp2_with fail
          have hfin : ReadP w0 w rb x3 x4 x5 x6 x7 (partsP false L) wr := by
            rw [hpp.out, hz.out]
            exact ⟨A2, c3, P, cp, L2, by rw [hpl.out]; exact hrw.out, by rw [hpl.out]; exact hown.out, hch.out⟩
          first
            | (go_end0; exact ⟨rfl, hfin⟩)
            | exact bodyPost_ret (v := .tuple #[]) (by simp [results, Tryd.results32, go_sem]) rfl ⟨rfl, hfin⟩
end Go.Proofs.YtijnomopcpgikaaDoor
