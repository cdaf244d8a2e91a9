/- loggia/manifest: (*left).numbers. -/
import Derived.Test.YtijnomopcpgikaaDoorMeA
import Derived.Test.YtijnomopcpgikaaDoorVaD
namespace Go.Proofs.YtijnomopcpgikaaDoor
open Go.RowKit

def numsM (bad : Bool) (L : List UInt8) (k : Nat) : Bool × List UInt8 × List Int := match bad, getAll k L with
  | false, .ok (ns, r) => (false, r, ns)
  | _, _ => (true, L, List.replicate k 0)
theorem numsM_ok {L : List UInt8} {k : Nat} {ns : List Int} {r : List UInt8} (h : getAll k L = .ok (ns, r)) : numsM false L k = (false, r, ns) := by unfold numsM; rw [h]
theorem numsM_err {L : List UInt8} {k x : Nat} (h : getAll k L = .error x) : numsM false L k = (true, L, List.replicate k 0) := by unfold numsM; rw [h]
theorem numsM_bad (L : List UInt8) (k : Nat) : numsM true L k = (true, L, List.replicate k 0) := rfl
/-- What 'numbers' does. -/
def NumP (w0 w : World) (rb : Nat) (x2 x3 x4 x5 x6 x7 : Value) (k : Nat) (res : Bool × List UInt8 × List Int) (e : Ending) (w' : World) : Prop :=
  ∃ A c B c2, e = .returned (.slice B k c2) ∧ Row w' rb 64 #[.slice A res.2.1.length c, .bool res.1, x2, x3, x4, x5, x6, x7] ∧ In8 w0 A res.2.1.length c res.2.1 ∧ Buf w' w.heap.size 3 B k c2 (res.2.2.map (Value.int .i64)) ∧ Chg (fun b => b = rb) w w'
theorem own_zeros (w : World) (k : Nat) : Buf (w.alloc (.cells (List.replicate k (Value.int .i64 0)).toArray 3)) w.heap.size 3 (some ⟨w.heap.size, 0, none⟩) k k ((List.replicate k (0 : Int)).map (Value.int .i64)) := by
  refine ⟨by simp, Nat.le_refl _, .inr ⟨w.heap.size, _, rfl, Nat.le_refl _, heap_alloc_new w _, by simp, by simp⟩⟩
set_option maxRecDepth 100000 in
set_option maxHeartbeats 2000000 in
theorem numbers_any (A : Option Addr) (n c k rb : Nat) (bad : Bool) (L : List UInt8) (x2 x3 x4 x5 x6 x7 : Value) (w0 w : World) (h : In8 w0 A n c L) (hw : Ext w0 w) (hle : n ≤ 1000000000) (hrb : w0.heap.size ≤ rb) (hk : k = 5 ∨ k = 6)
    (hr : Row w rb 64 #[.slice A n c, .bool bad, x2, x3, x4, x5, x6, x7]) :
    Calls Tryd.prog 31 #[.pointer (some ⟨rb, 0, none⟩), .int .i64 k] w fun e w' => NumP w0 w rb x2 x3 x4 x5 x6 x7 k (numsM bad L k) e w' := by
  have hga := getAll_any A n c k L w0 w h hw hle (by omega)
  have hmk : ∀ W : World, (Instr.makeSlice 55 (.int .i64 k) (.int .i64 k)).run Tryd.prog W = .ok (.slice (some ⟨W.heap.size, 0, none⟩) k k) (W.alloc (.cells (List.replicate k (Value.int .i64 0)).toArray 3)) := by
    intro W
    rcases hk with rfl | rfl <;> kernel_rfl
  have hlt := hr.lt
  obtain rfl := h.len
  have q0 : w.cell? ⟨rb, 0, none⟩ = some (.slice A L.length c) := hr.cell 0 rfl
  have hbad : ∀ w1, Ext w w1 → numsM bad L k = (true, L, List.replicate k 0) → NumP w0 w rb x2 x3 x4 x5 x6 x7 k (numsM bad L k) (.returned (.slice (some ⟨w1.heap.size, 0, none⟩) k k)) ((w1.setCell ⟨rb, 1, none⟩ (.bool true)).alloc (.cells (List.replicate k (Value.int .i64 0)).toArray 3)) := by
    intro w1 hE1 hn
    rw [hn]
    have hs : (w1.setCell ⟨rb, 1, none⟩ (.bool true)).heap.size = w1.heap.size := by simp [World.setCell]
    refine ⟨A, c, _, _, rfl, ?_, h, ?_, ?_⟩
    · exact (((hr.ext hE1).put 1 (.bool true)).alloc _)
    · have hz := own_zeros (w1.setCell ⟨rb, 1, none⟩ (.bool true)) k
      rw [hs] at hz
      exact hz.lower hE1.size
    · exact ((Chg.of_ext hE1 _).trans (Chg.of_set w1 (a := ⟨rb, 1, none⟩) (.bool true) (S := fun b => b = rb) rfl) fun _ _ h => h).trans (Chg.of_ext ((Ext.refl _).alloc _) (fun b => b = rb)) fun _ _ h => h
  replace hbad := hide hbad
  replace hga := hide hga
  cases hg : getAll k L with
  | error x =>
    rw [hg] at hga
    cases bad with
    | true =>
      have hnb := hide (numsM_bad L k)
      clear hg
      go_enter Tryd.func31, Tryd.ntmps31
      go_wp2_with fail
      refine hga.out.mono ?_
      rintro e w1 ⟨hE1, rfl, hx⟩
      have r1 := hr.ext hE1
      have y0 : w1.cell? ⟨rb, 0, none⟩ = some (.slice A L.length c) := r1.cell 0 rfl
      have y1 : w1.cell? ⟨rb, 1, none⟩ = some (.bool true) := r1.cell 1 rfl
      have hlt1 := r1.lt
      have hfr0 := r1.free 0
      have hfr1 := r1.free 1
      skip
      go_wp2_with fail
      go_ret
      have hs : (w1.setCell ⟨rb, 1, none⟩ (.bool true)).heap.size = w1.heap.size := by simp [World.setCell]
      first | exact hbad.out w1 hE1 hnb.out | (have := hbad.out w1 hE1 hnb.out; simpa [hs] using this)
    | false =>
      have hnb := hide (numsM_err hg)
      clear hg
      go_enter Tryd.func31, Tryd.ntmps31
      go_wp2_with fail
      refine hga.out.mono ?_
      rintro e w1 ⟨hE1, rfl, hx⟩
      have r1 := hr.ext hE1
      have y0 : w1.cell? ⟨rb, 0, none⟩ = some (.slice A L.length c) := r1.cell 0 rfl
      have y1 : w1.cell? ⟨rb, 1, none⟩ = some (.bool false) := r1.cell 1 rfl
      have hlt1 := r1.lt
      have hfr0 := r1.free 0
      have hfr1 := r1.free 1
      have hx0 : ((x : Int) != 0) = true := by simp; omega
      go_wp2_with fail
      go_ret
      have hs : (w1.setCell ⟨rb, 1, none⟩ (.bool true)).heap.size = w1.heap.size := by simp [World.setCell]
      first | exact hbad.out w1 hE1 hnb.out | (have := hbad.out w1 hE1 hnb.out; simpa [hs] using this)
  | ok p =>
    obtain ⟨ns, r⟩ := p
    rw [hg] at hga
    cases bad with
    | true =>
      have hnb := hide (numsM_bad L k)
      clear hg
      go_enter Tryd.func31, Tryd.ntmps31
      go_wp2_with fail
      refine hga.out.mono ?_
      rintro e w1 ⟨hE1, A1, c1, B1, c2, rfl, hb1, hin1⟩
      have r1 := hr.ext hE1
      have y0 : w1.cell? ⟨rb, 0, none⟩ = some (.slice A L.length c) := r1.cell 0 rfl
      have y1 : w1.cell? ⟨rb, 1, none⟩ = some (.bool true) := r1.cell 1 rfl
      have hlt1 := r1.lt
      have hfr0 := r1.free 0
      have hfr1 := r1.free 1
      skip
      go_wp2_with fail
      go_ret
      have hs : (w1.setCell ⟨rb, 1, none⟩ (.bool true)).heap.size = w1.heap.size := by simp [World.setCell]
      first | exact hbad.out w1 hE1 hnb.out | (have := hbad.out w1 hE1 hnb.out; simpa [hs] using this)
    | false =>
      have hnb := hide (numsM_ok hg)
      clear hg
      go_enter Tryd.func31, Tryd.ntmps31
      go_wp2_with fail
      refine hga.out.mono ?_
      rintro e w1 ⟨hE1, A1, c1, B1, c2, rfl, hb1, hin1⟩
      have r1 := hr.ext hE1
      have y0 : w1.cell? ⟨rb, 0, none⟩ = some (.slice A L.length c) := r1.cell 0 rfl
      have y1 : w1.cell? ⟨rb, 1, none⟩ = some (.bool false) := r1.cell 1 rfl
      have hlt1 := r1.lt
      have hfr0 := r1.free 0
      have hfr1 := r1.free 1
      skip
      go_wp2_with fail
      go_ret
      rw [hnb.out]
      refine ⟨A1, c1, B1, c2, rfl, r1.put 0 _, hin1, ?_, ?_⟩
      · exact hb1.setCell (fun a ha hbk => by have := hb1.base_le a ha; have hbk2 : a.block = rb := hbk; omega) _
      · exact (Chg.of_ext hE1 _).trans (Chg.of_set w1 (a := ⟨rb, 0, none⟩) _ (S := fun b => b = rb) rfl) fun _ _ h => h
end Go.Proofs.YtijnomopcpgikaaDoor
