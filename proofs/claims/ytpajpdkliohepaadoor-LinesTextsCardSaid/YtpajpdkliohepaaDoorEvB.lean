/- Events: event.Check. -/
import Derived.Test.YtpajpdkliohepaaDoorEvA
namespace Go.Proofs.YtpajpdkliohepaaDoor
open Go.RowKit

/-- An event that may be looked at. -/
structure Ev.Ok (e : Ev) (w : World) (A : Option Addr) : Prop where
  cells : Cells w A (fcells e.fs)
  many : e.fs.length ≤ 9223372036854775807
  long : ∀ f ∈ e.fs, f.1.length ≤ 9223372036854775807 ∧ f.2.length ≤ 9223372036854775807
theorem Ev.Ok.ext {e : Ev} {w w1 : World} {A : Option Addr} (h : e.Ok w A) (hE : Ext w w1) : e.Ok w1 A := ⟨h.cells.ext hE, h.many, h.long⟩
set_option maxRecDepth 100000 in
set_option maxHeartbeats 2000000 in
theorem echeck_any (e : Ev) (A : Option Addr) (c : Nat) (w : World) (h : e.Ok w A) : Calls Tryd.prog 24 #[e.val A c] w fun en w' => en = .returned (.int .i64 (checkE e.fs : Int)) ∧ Ext w w' := by
  obtain ⟨at_, fs⟩ := e
  obtain ⟨hc, hm, hl⟩ := h
  unfold Ev.val
  simp only at hc hm hl ⊢
  obtain ⟨n, hn⟩ : ∃ n, n = fs.length := ⟨_, rfl⟩
  obtain ⟨z, hz⟩ : ∃ z, z = checkE fs := ⟨_, rfl⟩
  have hmany : 16 < n → z = 3 := fun h => by rw [hz]; unfold checkE; rw [if_pos (by omega)]
  have hgo : n ≤ 16 → z = checkF (fs.drop 0) := fun h => by rw [hz]; unfold checkE; rw [if_neg (by omega)]; rfl
  have hnm := fun s W (hs : s.length ≤ 9223372036854775807) => name_any s W hs
  rw [← hz, ← hn]
  rw [← hn] at hm
  replace hn := hide hn
  replace hl := hide hl
  replace hnm := hide hnm
  replace hgo := hide hgo
  clear hz
  by_cases h16 : 16 < n
  · have hz3 := hmany h16
    subst hz3
    clear hmany
    go_enter Tryd.func24, Tryd.ntmps24
    go_wp2_with fail
    go_ret
    exact ⟨rfl, (Ext.refl w).alloc _⟩
  · clear hmany
    go_enter Tryd.func24, Tryd.ntmps24
    go_wp2_with fail
    have hz0 := hgo.out (by omega)
    replace hz0 := hide hz0
    have hEW : Ext w (w.alloc (.cells #[.int .i64 at_, .slice A n c] 24)) := (Ext.refl w).alloc _
    obtain ⟨W0, hW0⟩ : ∃ W0, W0 = w.alloc (.cells #[.int .i64 at_, .slice A n c] 24) := ⟨_, rfl⟩
    rw [← hW0] at hEW ⊢
    clear hW0
    go_loopw [12] (fun s12 wr => ∃ i : Nat, s12 = .int .i64 i ∧ i ≤ n ∧ Hid (z = checkF (fs.drop i)) ∧ Hid (Ext w wr)) (fun s12 _ => n - (intOf s12).toNat)
    case atStart => exact ⟨0, rfl, by omega, hz0, hide hEW⟩
    case round =>
      obtain ⟨i, rfl, hi, hz, hE⟩ := hrel
      by_cases hin : i < n
      · have hil : i < fs.length := by rw [← hn.out]; exact hin
        obtain ⟨f, hf⟩ : ∃ f, fs[i]? = some f := ⟨_, List.getElem?_eq_getElem hil⟩
        obtain ⟨g, o, rfl, k0, k1⟩ := fcells_at (hc.ext hE.out) hf
        obtain ⟨hl1, hl2⟩ := hl.out f (List.mem_of_getElem? hf)
        have hz2 := hz.out
        rw [checkF_drop hf] at hz2
        unfold strV at k0 k1
        have hglt : g < wr.heap.size := World.block_lt_of_cell? wr _ k0
        obtain ⟨nm, tx⟩ := f
        simp only at k0 k1 hl1 hl2 hz2
        have hnm1 := fun W => hnm.out nm W hl1
        obtain ⟨q, hq⟩ : ∃ q, q = nameL nm := ⟨_, rfl⟩
        rw [← hq] at hnm1 hz2
        replace hnm1 := hide hnm1
        replace hz2 := hide hz2
        clear hf hq
        go_wp2_with fail
        have hrow : Row (wr.alloc (.cells #[.string ⟨nm.toArray⟩, .string ⟨tx.toArray⟩] 52)) wr.heap.size 52 #[.string ⟨nm.toArray⟩, .string ⟨tx.toArray⟩] := Row.new wr _ _
        have hE1 : Ext w (wr.alloc (.cells #[.string ⟨nm.toArray⟩, .string ⟨tx.toArray⟩] 52)) := hE.out.trans ((Ext.refl wr).alloc _)
        refine (hnm1.out _).mono ?_
        rintro e w3 ⟨rfl, hE3⟩
        have k3 : w3.cell? ⟨wr.heap.size, 1, none⟩ = some (.string ⟨tx.toArray⟩) := hE3.cell (hrow.cell 1 rfl)
        have hE4 := hide (hE1.trans hE3)
        clear hrow hE1
        cases q with
        | false =>
          obtain rfl : z = 100 := by rw [hz2.out]; rfl
          go_wp2_with fail
          go_ret
          exact ⟨rfl, hE4.out⟩
        | true =>
          by_cases hlt : 4096 < tx.length
          · obtain rfl : z = 2 := by rw [hz2.out, if_neg (by simp), if_pos hlt]
            go_wp2_with fail
            go_ret
            exact ⟨rfl, hE4.out⟩
          · have hz3 := hide (show z = checkF (fs.drop (i + 1)) by rw [hz2.out, if_neg (by simp), if_neg hlt])
            go_wp2_with fail
            go_roundw
            case rel => exact ⟨i + 1, by go_num, by omega, hz3, hE4⟩
            case measure => simp [intOf]; omega
      · have hz0 := hz.out
        rw [List.drop_of_length_le (by rw [← hn.out]; omega)] at hz0
        have hz1 : z = 0 := hz0
        subst hz1
        go_wp2_with fail
        go_ret
        exact ⟨rfl, hE.out⟩
end Go.Proofs.YtpajpdkliohepaaDoor
