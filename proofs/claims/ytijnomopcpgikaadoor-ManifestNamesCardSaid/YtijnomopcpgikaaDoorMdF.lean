/- loggiaref16: parts. -/
import Derived.Test.YtijnomopcpgikaaDoorMdC
namespace Go.Proofs.YtijnomopcpgikaaDoor
open Go.RowKit

def combP (ps : List Pt) : Except Nat (List Pt × List UInt8) → Except Nat (List Pt × List UInt8)
  | .ok (qs, r) => .ok (ps ++ qs, r)
  | .error e => .error e
theorem combP_nil (x : Except Nat (List Pt × List UInt8)) : combP [] x = x := by
  unfold combP
  split <;> simp
theorem getPts_step {k i : Nat} {ps : List Pt} {l r : List UInt8} (h : getPts k l = combP ps (getPts (k - i) r)) (hi : i < k) : match getAll 6 r with
    | .ok (ns, r1) => getPts k l = combP (ps ++ [mkPt ns]) (getPts (k - (i + 1)) r1)
    | .error x => getPts k l = .error x := by
  obtain ⟨j, hj⟩ : ∃ j, k - i = j + 1 := ⟨k - i - 1, by omega⟩
  have hj2 : k - (i + 1) = j := by omega
  rw [hj] at h
  rw [h, hj2]
  cases hr : getAll 6 r with
  | error x =>
    unfold getPts
    rw [hr]
    rfl
  | ok p =>
    obtain ⟨ns, r1⟩ := p
    simp only
    conv => lhs; unfold getPts
    rw [hr]
    simp only
    cases getPts j r1 with
    | error e => rfl
    | ok q => obtain ⟨qs, r2⟩ := q; simp [combP]
def RPartP (w : World) (k : Nat) (res : Except Nat (List Pt × List UInt8)) (e : Ending) (w' : World) : Prop := Ext w w' ∧ match res with
  | .ok (ps, _) => ∃ P cp, e = .returned (.tuple #[.slice P k cp, .bool true]) ∧ w'.ownsRow w.heap.size 40 7 (.slice P k cp) k (pcells ps)
  | .error _ => e = .returned (.tuple #[.slice none 0 0, .bool false])
theorem rpart_err {w w' : World} {k x : Nat} {res : Except Nat (List Pt × List UInt8)} (h : res = .error x) (hE : Ext w w') : RPartP w k res (.returned (.tuple #[.slice none 0 0, .bool false])) w' := by
  rw [h]
  exact ⟨hE, rfl⟩
theorem rpart_ok {w w' : World} {k cp : Nat} {P : Option Addr} {ps : List Pt} {r : List UInt8} {res : Except Nat (List Pt × List UInt8)} (h : res = .ok (ps, r)) (hE : Ext w w') (ho : w'.ownsRow w.heap.size 40 7 (.slice P k cp) k (pcells ps)) :
    RPartP w k res (.returned (.tuple #[.slice P k cp, .bool true])) w' := by
  rw [h]
  exact ⟨hE, P, cp, rfl, ho⟩
set_option maxRecDepth 100000 in
set_option maxHeartbeats 4000000 in
theorem rparts_any (A : Option Addr) (n c k : Nat) (L : List UInt8) (w0 w : World) (h : In8 w0 A n c L) (hw : Ext w0 w) (hle : n ≤ 1000000000) (hk : k ≤ 512) :
    Calls Tryd.prog 36 #[.slice A n c, .int .i64 k] w fun e w' => RPartP w k (getPts k L) e w' := by
  obtain rfl := h.len
  go_enter Tryd.func36, Tryd.ntmps36
  go_wp2_with fail
  go_loopw [0, 6, 7] (fun s0 s6 s7 wr => ∃ (i : Nat) (L2 : List UInt8) (ps : List Pt) (A2 P : Option Addr) (c3 cp : Nat), s7 = .int .i64 i ∧ i ≤ k ∧ s0 = .slice A2 L2.length c3 ∧ s6 = .slice P i cp ∧ L2.length ≤ 1000000000 ∧ Hid (getPts k L = combP ps (getPts (k - i) L2)) ∧ Hid (In8 w0 A2 L2.length c3 L2) ∧ Hid (wr.ownsRow w.heap.size 40 7 (.slice P i cp) i (pcells ps)) ∧ Hid (Ext w wr)) (fun _ _ s7 _ => k - (intOf s7).toNat)
  case atStart => exact ⟨0, L, [], A, none, c, 0, rfl, by omega, rfl, rfl, hle, hide (by rw [combP_nil]; rfl), hide h, hide ⟨rfl, .inl ⟨rfl, rfl⟩⟩, hide (Ext.refl w)⟩
  case round =>
    obtain ⟨i, L2, ps, A2, P, c3, cp, rfl, hi, rfl, rfl, hL2, hg, hin, hown, hE⟩ := hrel
    by_cases hik : i < k
    · have hga := rgetAll_any A2 L2.length c3 6 L2 w0 wr hin.out (hw.trans hE.out) hL2 (by omega)
      have hst := getPts_step hg.out hik
      cases hr : getAll 6 L2 with
      | error x =>
        rw [hr] at hga hst
        replace hga := hide hga
        replace hst := hide hst
        clear hr h hg
        go_wp2_with fail
        refine hga.out.mono ?_
        rintro e w1 ⟨hE1, rfl, hx⟩
        have hx0 : ((x : Int) != 0) = true := by simp; omega
        clear hx
        go_wp2_with fail
        go_ret2
        exact rpart_err hst.out (hE.out.trans hE1)
      | ok p =>
        obtain ⟨ns, r1⟩ := p
        rw [hr] at hga hst
        obtain ⟨hn6, _, q, hq⟩ := getAll_len 6 L2 ns r1 hr
        have hr1 : r1.length ≤ 1000000000 := by rw [hq, List.length_append] at hL2; omega
        obtain ⟨a0, a1, a2, a3, a4, a5, rfl⟩ := six_of hn6
        replace hga := hide hga
        replace hst := hide hst
        clear hr h hg hq hn6
        go_wp2_with fail
        refine hga.out.mono ?_
        rintro e w1 ⟨hE1, A3, c4, B, cb, rfl, hbu, hin3⟩
        have hE2 := hide (hE.out.trans hE1)
        obtain ⟨g, o, rfl, hcc⟩ := hbu.cells.at_ (by simp)
        have z0 : w1.cell? ⟨g, o, none⟩ = some (.int .i64 a0) := hcc 0 _ rfl
        have z1 : w1.cell? ⟨g, o + 1, none⟩ = some (.int .i64 a1) := hcc 1 _ rfl
        have z2 : w1.cell? ⟨g, o + 2, none⟩ = some (.int .i64 a2) := hcc 2 _ rfl
        have z3 : w1.cell? ⟨g, o + 3, none⟩ = some (.int .i64 a3) := hcc 3 _ rfl
        have z4 : w1.cell? ⟨g, o + 4, none⟩ = some (.int .i64 a4) := hcc 4 _ rfl
        have z5 : w1.cell? ⟨g, o + 5, none⟩ = some (.int .i64 a5) := hcc 5 _ rfl
        have hown4 := hide ((Ext.drew hE1).owns hown.out)
        have hE3 := hide (hE2.out.drew)
        have hsz := hE3.out.size
        clear hcc hbu
        go_wp2_with fail
        refine wp_region_text follows (by kernel_rfl) (by kernel_rfl) (fun K hK => ?_)
        go_wp2_with (at_builtin; refine wpList_appS (m := 1) elemP hown4.out (.tmp 24) (.tmp 52) rfl rfl rfl rfl rfl (one_of rfl) (by omega) hsz (fun A4 c5 w4 ho5 hg5 hl5 => ?_))
        refine ⟨by kernel_rfl, ?_⟩
        go_wp2_with fail
        go_roundw
        case rel =>
          have hpt : (mkPt [a0, a1, a2, a3, a4, a5]).cells = [.int .i64 a0, .int .i64 a1, .int .i64 a2, .int .i64 a3, .int .i64 a4, .int .i64 a5, .int .i64 (wrap64 (wrap64 (a5 - a4) + 1))] := rfl
          refine ⟨i + 1, r1, ps ++ [mkPt [a0, a1, a2, a3, a4, a5]], A3, A4, c4, c5, by go_num, by omega, rfl, rfl, hr1, hst, hide hin3, hide ?_, hide (hE3.out.grown hg5 fun b hb => ?_)⟩
          · rw [pcells_snoc, hpt]
            exact ho5
          · obtain ⟨_, _, hbb⟩ := owns_row hown4.out hb
            exact hbb
        case measure => simp [intOf]; omega
    · obtain rfl : i = k := by omega
      have hz := hg.out
      rw [Nat.sub_self] at hz
      have hz2 : getPts i L = .ok (ps, L2) := by rw [hz]; simp [getPts, combP]
      replace hz2 := hide hz2
      clear h hz
      go_wp2_with fail
      go_ret2
      exact rpart_ok hz2.out hE.out hown.out
end Go.Proofs.YtijnomopcpgikaaDoor
