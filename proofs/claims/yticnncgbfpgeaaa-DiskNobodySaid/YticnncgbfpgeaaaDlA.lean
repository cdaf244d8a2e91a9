/- loggialaw06: awake. -/
import Derived.Test.YticnncgbfpgeaaaDkX
import Derived.Laws.BytesArg
namespace Go.Proofs.Yticnncgbfpgeaaa
open Go.RowKit Go.Maps

theorem modify_push {α : Type} (h : Array α) (x : α) (f : α → α) : (h.push x).modify h.size f = h.push (f x) := by
  apply Array.ext
  · simp
  · intro i h1 h2
    simp only [Array.getElem_modify, Array.getElem_push]
    simp only [Array.size_push] at h2
    split
    · rename_i he
      subst he
      rw [dif_neg (by omega), dif_neg (by omega)]
    · rename_i he
      rw [dif_pos (by omega), dif_pos (by omega)]
theorem freeze_new (w : World) (cs : Array Value) (t : TypeId) (n : Nat) : (w.alloc (.cells cs t)).freeze ⟨w.heap.size, n, none⟩ 1 = w.alloc (.cells cs t (n, n + 1)) := by
  unfold World.freeze World.alloc
  rw [if_neg (by omega)]
  simp only [modify_push]
  rfl
set_option maxRecDepth 100000 in
theorem run_same (w : World) (cs : Array Value) (n c : Nat) : (convert 27 27 (.slice (some ⟨w.heap.size, 0, none⟩) n c)).run Try.prog (w.alloc (.cells cs 5)) = .ok (.slice (some ⟨w.heap.size, 0, none⟩) n c) (w.alloc (.cells cs 5 (cs.size, cs.size + 1))) := by
  have hs : (w.alloc (.cells cs 5)).shape? w.heap.size = some (5, cs.size) := by
    unfold World.shape?
    rw [heap_alloc_new w _]
  unfold convert
  simp only [Sem.run_bind, run_underlying Try.underlying27, Result.andThen_ok]
  show Sem.run _ (do
      let __do_lift ← underlying 5
      match (27 : TypeId) == 27, __do_lift with
        | true, TypeDesc.int IntKind.u8 => do
          markStringish ⟨w.heap.size, 0, none⟩
          pure (Value.slice (some ⟨w.heap.size, 0, none⟩) n c)
        | x, x_1 => unsupported (Unsupported.noEntry "convert/other")) _ = _
  simp only [Sem.run_bind, run_underlying Try.underlying5, Result.andThen_ok]
  show Sem.run _ (do
          markStringish ⟨w.heap.size, 0, none⟩
          pure (Value.slice (some ⟨w.heap.size, 0, none⟩) n c)) _ = _
  unfold markStringish
  simp only [Sem.run_bind, run_shape, Result.andThen_ok, hs, run_freeze, freeze_new, Sem.run_pure]
/-- Bytes that were laid and marked. -/
theorem marked_bytes (w : World) (l : List UInt8) (t : TypeId) (f : Nat × Nat) : Bs (w.alloc (.cells (l.map B8).toArray t f)) (some ⟨w.heap.size, 0, none⟩) l :=
  .inr ⟨w.heap.size, 0, rfl, fun i v hv => by
    rw [Nat.zero_add, cell_of_row _ _ _ _ _ _ (heap_alloc_new w _)]
    simpa using hv⟩
set_option maxRecDepth 100000 in
theorem run_str {A : Option Addr} {l : List UInt8} {w : World} (h : Bs w A l) (n c : Nat) (hn : n = l.length) : (convert 27 9 (.slice A n c)).run Try.prog w = .ok (.string ⟨l.toArray⟩) w := by
  subst hn
  rcases Nat.eq_zero_or_pos l.length with h0 | h0
  · obtain rfl := List.eq_nil_of_length_eq_zero h0
    show (convert 27 9 (.slice A 0 c)).run Try.prog w = _
    rw [run_convert_bytes_string w 27 9 5 A 0 c Try.underlying27 Try.underlying5 Try.underlying9]
    cases A with
    | none => rfl
    | some a => exact run_bytesToString w a 0 c [] rfl
  · obtain ⟨g, o, rfl, hc⟩ := h.at_ h0
    have := run_convert_bytes_arg (P := Try.prog) w 27 5 Try.underlying27 Try.underlying5 g o l.length c (l.map fun x => (x.toNat : Int)) (by simp) (fun i hi => by rw [hc i hi]; simp [List.getD, hi]) 9 Try.underlying9
    rw [this]
    unfold strOfNums
    have e : (l.map fun x => (x.toNat : Int)).map (fun n => UInt8.ofNat n.toNat) = l := by
      rw [List.map_map]
      conv => rhs; rw [← List.map_id l]
      exact List.map_congr_left (fun x _ => by simp)
    rw [e]
/-- A call of the disk that lies above all that was there. -/
theorem DNext.ext {w0 w w' : World} {base d : Nat} {P P' : PD} {F : Nat → Prop} (h : DNext base d F w P' w') (hS : DS w base d P F) (hE : Ext w0 w) (hb : w0.heap.size ≤ base) : ∃ F', DS w' base d P' F' ∧ Ext w0 w' := by
  obtain ⟨F', h1, h2, _⟩ := h
  exact ⟨F', h1, hE.chg h2 fun i hi hf => by have := hS.base_le hf; omega⟩
theorem DS.not_old {w : World} {base d : Nat} {P : PD} {F : Nat → Prop} (h : DS w base d P F) {k : Nat} (hk : w.heap.size ≤ k) : ¬ F k := fun hf => by have := h.lt hf; omega
def aP1 : PD := ⟨[([97], [97, 98], 0)], 0, 0, false⟩
def aP2 : PD := ⟨[([97], [97, 98], 2)], 0, 0, false⟩
def aP3 : PD := ⟨[([97], [97, 98, 99, 100], 2)], 0, 0, false⟩
def aP4 : PD := ⟨[([97], [97, 98, 99], 3)], 0, 0, false⟩
theorem a1 : appendM ⟨[], 0, 0, false⟩ [97] [97, 98] = (aP1, 0) := by kernel_rfl
theorem a2 : syncM aP1 [97] = (aP2, 0) := by kernel_rfl
theorem a3 : appendM aP2 [97] [99, 100] = (aP3, 0) := by kernel_rfl
theorem a4 : restartM aP3 [1] = aP4 := by kernel_rfl
theorem a5 : readM aP4 [97] 0 9 = ([97, 98, 99], 0) := by kernel_rfl
theorem a6 : durM aP4 [97] = 3 := by kernel_rfl
set_option maxRecDepth 100000 in
set_option maxHeartbeats 2000000 in
theorem awake_any (w : World) : Calls Try.prog 9 #[] w fun e w' => e = .returned (.bool true) ∧ Ext w w' := by
  have hnew := new_yes w.heap.size 0 w (by omega) (Nat.le_refl _)
  replace hnew := hide hnew
  go_enter Try.func9, Try.ntmps9
  go_wp2_with fail
  refine hnew.out.mono ?_
  rintro e w1 ⟨d, F, rfl, hS1, hF1, hE1⟩
  have hs1 := run_same w1 #[.int .u8 97, .int .u8 98] 2 2
  obtain ⟨W1, hW1⟩ : ∃ W1, W1 = w1.alloc (.cells #[.int .u8 97, .int .u8 98] 5 (2, 3)) := ⟨_, rfl⟩
  have hEW : Ext w1 W1 := by rw [hW1]; exact (Ext.refl w1).alloc _
  have hbb : Bs W1 (some ⟨w1.heap.size, 0, none⟩) [97, 98] := by rw [hW1]; exact marked_bytes w1 _ _ _
  have hap := append_any w.heap.size d ⟨[], 0, 0, false⟩ F [97] [97, 98] (some ⟨w1.heap.size, 0, none⟩) 2 2 W1 (hS1.ext hEW) (by decide) hbb (by rintro a ha; cases ha; exact hS1.not_old (Nat.le_refl _)) rfl (by omega) (Nat.le_trans hE1.size hEW.size)
  rw [a1] at hap
  have hWx := hide hW1.symm
  clear hW1
  unfold str at hap
  replace hap := hide hap
  go_wp2_with fail
  rw [hWx.out]
  refine hap.out.mono ?_
  rintro e w2 ⟨rfl, hn2⟩
  obtain ⟨F2, hS2, hE2⟩ := hn2.ext (hS1.ext hEW) (hE1.trans hEW) (Nat.le_refl _)
  have hsy := sync_any w.heap.size d aP1 F2 [97] w2 hS2 (by decide)
  rw [a2] at hsy
  unfold str at hsy
  replace hsy := hide hsy
  go_wp2_with fail
  refine hsy.out.mono ?_
  rintro e w3 ⟨rfl, hn3⟩
  obtain ⟨F3, hS3, hE3⟩ := hn3.ext hS2 hE2 (Nat.le_refl _)
  have hs3 := run_same w3 #[.int .u8 99, .int .u8 100] 2 2
  obtain ⟨W3, hW3⟩ : ∃ W3, W3 = w3.alloc (.cells #[.int .u8 99, .int .u8 100] 5 (2, 3)) := ⟨_, rfl⟩
  have hEW3 : Ext w3 W3 := by rw [hW3]; exact (Ext.refl w3).alloc _
  have hbb3 : Bs W3 (some ⟨w3.heap.size, 0, none⟩) [99, 100] := by rw [hW3]; exact marked_bytes w3 _ _ _
  have hap3 := append_any w.heap.size d aP2 F3 [97] [99, 100] (some ⟨w3.heap.size, 0, none⟩) 2 2 W3 (hS3.ext hEW3) (by decide) hbb3 (by rintro a ha; cases ha; exact hS3.not_old (Nat.le_refl _)) rfl (by omega) (Nat.le_trans hE3.size hEW3.size)
  rw [a3] at hap3
  have hWx3 := hide hW3.symm
  clear hW3
  unfold str at hap3
  replace hap3 := hide hap3
  go_wp2_with fail
  rw [hWx3.out]
  refine hap3.out.mono ?_
  rintro e w4 ⟨rfl, hn4⟩
  obtain ⟨F4, hS4, hE4⟩ := hn4.ext (hS3.ext hEW3) (hE3.trans hEW3) (Nat.le_refl _)
  obtain ⟨W4, hW4⟩ : ∃ W4, W4 = w4.alloc (.cells #[.int .i64 1] 3) := ⟨_, rfl⟩
  have hEW4 : Ext w4 W4 := by rw [hW4]; exact (Ext.refl w4).alloc _
  have hck : Cells W4 (some ⟨w4.heap.size, 0, none⟩) ([1].map I64) := by
    refine .inr ⟨w4.heap.size, 0, rfl, fun i v hv => ?_⟩
    rw [Nat.zero_add, hW4, cell_of_row _ _ _ _ _ _ (heap_alloc_new w4 _)]
    simpa [I64] using hv
  have hrs := restart_any w.heap.size d aP3 F4 (some ⟨w4.heap.size, 0, none⟩) 1 1 [1] W4 (hS4.ext hEW4) hck (by rintro a ha; cases ha; exact hS4.not_old (Nat.le_refl _)) rfl (by decide) (by omega)
  rw [a4] at hrs
  have hWx4 := hide hW4.symm
  clear hW4
  replace hrs := hide hrs
  go_wp2_with fail
  rw [hWx4.out]
  refine hrs.out.mono ?_
  rintro e w5 ⟨rfl, hn5⟩
  obtain ⟨F5, hS5, hE5⟩ := hn5.ext (hS4.ext hEW4) (hE4.trans hEW4) (Nat.le_refl _)
  have hrd := read_any w.heap.size d aP4 F5 [97] 0 9 w5 hS5 (by decide) (by omega) (by omega) (by omega) (by omega)
  unfold str ReadPost at hrd
  rw [a5] at hrd
  replace hrd := hide hrd
  go_wp2_with fail
  refine hrd.out.mono ?_
  rintro e w6 ⟨A6, k6, c6, rfl, hb6, hk6, hE6⟩
  obtain rfl : k6 = 3 := hk6
  have hstr := run_str (l := [97, 98, 99]) hb6.cells 3 c6 rfl
  have hdu := durable_any w.heap.size d aP4 F5 [97] w6 (hS5.ext hE6) (by decide)
  rw [a6] at hdu
  unfold str at hdu
  replace hdu := hide hdu
  go_wp2_with fail
  refine hdu.out.mono ?_
  rintro e w7 ⟨rfl, rfl⟩
  go_wp2_with fail
  go_ret
  exact ⟨rfl, hE5.trans hE6⟩
end Go.Proofs.Yticnncgbfpgeaaa
