/- loggia/disk: a disk that nobody made. -/
import Derived.Test.YticnncgbfpgeaaaDlO
namespace Go.Proofs.Yticnncgbfpgeaaa
open Go.RowKit Go.Maps

/-- No disk, or one without a map. -/
def Nob (w : World) (o : Option Addr) : Prop := o = none ∨ ∃ d, o = some ⟨d, 0, none⟩ ∧ Row w d 63 #[.map none, .int .i64 0, .int .i64 0, .bool false]
theorem Nob.ext {w w1 : World} {o : Option Addr} (h : Nob w o) (hE : Ext w w1) : Nob w1 o := h.imp id fun ⟨d, h1, h2⟩ => ⟨d, h1, h2.ext hE⟩
theorem map_none (w : World) : (binOp .eql 61 (.map none) (.map none)).run Try.prog w = .ok (.bool true) w := by kernel_rfl
set_option maxRecDepth 100000 in
theorem nob_none (o : Option Addr) (w : World) (h : Nob w o) : Calls Try.prog 31 #[.pointer o] w fun e w' => e = .returned (.bool true) ∧ w' = w := by
  rcases h with rfl | ⟨d, rfl, hr⟩
  · go_enter Try.func31, Try.ntmps31
    go_wp2_with fail
    go_ret
    exact ⟨rfl, rfl⟩
  · have c0 := hr.cell 0 rfl
    have hq := map_none w
    go_enter Try.func31, Try.ntmps31
    go_wp2_with fail
    go_ret
    exact ⟨rfl, rfl⟩
set_option maxRecDepth 100000 in
theorem nob_may (o : Option Addr) (A : Option Addr) (n c : Nat) (w : World) (h : Nob w o) : Calls Try.prog 29 #[.pointer o, .slice A n c] w fun e w' => e = .returned (.int .i64 4) ∧ w' = w := by
  have h0 : ∀ W, Ext w W → Calls Try.prog 31 #[.pointer o] W fun e w' => e = .returned (.bool true) ∧ w' = W := fun W hE => nob_none o W (h.ext hE)
  replace h0 := hide h0
  go_enter Try.func29, Try.ntmps29
  go_wp2_with fail
  refine (h0.out _ (by first | exact Ext.refl _ | exact (Ext.refl _).alloc _ | exact ((Ext.refl _).alloc _).alloc _ | exact (Ext.refl _).drew | exact ((Ext.refl _).alloc _).drew | exact ((Ext.refl _).drew).alloc _)).mono ?_
  rintro e w1 ⟨rfl, rfl⟩
  go_wp2_with fail
  go_ret
  exact ⟨rfl, rfl⟩
set_option maxRecDepth 100000 in
theorem nob_size (o : Option Addr) (s : List UInt8) (w : World) (h : Nob w o) : Calls Try.prog 27 #[.pointer o, str s] w fun e w' => e = .returned (.tuple #[.int .i64 0, .bool false]) ∧ w' = w := by
  unfold str
  have h0 : ∀ W, Ext w W → Calls Try.prog 31 #[.pointer o] W fun e w' => e = .returned (.bool true) ∧ w' = W := fun W hE => nob_none o W (h.ext hE)
  replace h0 := hide h0
  go_enter Try.func27, Try.ntmps27
  go_wp2_with fail
  refine (h0.out _ (by first | exact Ext.refl _ | exact (Ext.refl _).alloc _ | exact ((Ext.refl _).alloc _).alloc _ | exact (Ext.refl _).drew | exact ((Ext.refl _).alloc _).drew | exact ((Ext.refl _).drew).alloc _)).mono ?_
  rintro e w1 ⟨rfl, rfl⟩
  go_wp2_with fail
  go_ret2
  exact ⟨rfl, rfl⟩
set_option maxRecDepth 100000 in
theorem nob_list (o : Option Addr) (w : World) (h : Nob w o) : Calls Try.prog 11 #[.pointer o] w fun e w' => e = .returned (.slice none 0 0) ∧ w' = w := by
  have h0 : ∀ W, Ext w W → Calls Try.prog 31 #[.pointer o] W fun e w' => e = .returned (.bool true) ∧ w' = W := fun W hE => nob_none o W (h.ext hE)
  replace h0 := hide h0
  go_enter Try.func11, Try.ntmps11
  go_wp2_with fail
  refine (h0.out _ (by first | exact Ext.refl _ | exact (Ext.refl _).alloc _ | exact ((Ext.refl _).alloc _).alloc _ | exact (Ext.refl _).drew | exact ((Ext.refl _).alloc _).drew | exact ((Ext.refl _).drew).alloc _)).mono ?_
  rintro e w1 ⟨rfl, rfl⟩
  go_wp2_with fail
  go_ret
  exact ⟨rfl, rfl⟩
set_option maxRecDepth 100000 in
theorem nob_used (o : Option Addr) (w : World) (h : Nob w o) : Calls Try.prog 16 #[.pointer o] w fun e w' => e = .returned (.int .i64 0) ∧ w' = w := by
  have h0 : ∀ W, Ext w W → Calls Try.prog 31 #[.pointer o] W fun e w' => e = .returned (.bool true) ∧ w' = W := fun W hE => nob_none o W (h.ext hE)
  replace h0 := hide h0
  go_enter Try.func16, Try.ntmps16
  go_wp2_with fail
  refine (h0.out _ (by first | exact Ext.refl _ | exact (Ext.refl _).alloc _ | exact ((Ext.refl _).alloc _).alloc _ | exact (Ext.refl _).drew | exact ((Ext.refl _).alloc _).drew | exact ((Ext.refl _).drew).alloc _)).mono ?_
  rintro e w1 ⟨rfl, rfl⟩
  go_wp2_with fail
  go_ret
  exact ⟨rfl, rfl⟩
set_option maxRecDepth 100000 in
theorem nob_quota (o : Option Addr) (q : Int) (w : World) (h : Nob w o) : Calls Try.prog 28 #[.pointer o, .int .i64 q] w fun e w' => e = .returned (.int .i64 4) ∧ w' = w := by
  have h0 : ∀ W, Ext w W → Calls Try.prog 31 #[.pointer o] W fun e w' => e = .returned (.bool true) ∧ w' = W := fun W hE => nob_none o W (h.ext hE)
  replace h0 := hide h0
  go_enter Try.func28, Try.ntmps28
  go_wp2_with fail
  refine (h0.out _ (by first | exact Ext.refl _ | exact (Ext.refl _).alloc _ | exact ((Ext.refl _).alloc _).alloc _ | exact (Ext.refl _).drew | exact ((Ext.refl _).alloc _).drew | exact ((Ext.refl _).drew).alloc _)).mono ?_
  rintro e w1 ⟨rfl, rfl⟩
  go_wp2_with fail
  go_ret
  exact ⟨rfl, rfl⟩
set_option maxRecDepth 100000 in
theorem nob_arm (o : Option Addr) (q : Int) (w : World) (h : Nob w o) : Calls Try.prog 26 #[.pointer o, .int .i64 q] w fun e w' => e = .returned (.tuple #[]) ∧ w' = w := by
  have h0 : ∀ W, Ext w W → Calls Try.prog 31 #[.pointer o] W fun e w' => e = .returned (.bool true) ∧ w' = W := fun W hE => nob_none o W (h.ext hE)
  replace h0 := hide h0
  go_enter Try.func26, Try.ntmps26
  go_wp2_with fail
  refine (h0.out _ (by first | exact Ext.refl _ | exact (Ext.refl _).alloc _ | exact ((Ext.refl _).alloc _).alloc _ | exact (Ext.refl _).drew | exact ((Ext.refl _).alloc _).drew | exact ((Ext.refl _).drew).alloc _)).mono ?_
  rintro e w1 ⟨rfl, rfl⟩
  go_wp2_with fail
  go_end0
  exact ⟨rfl, rfl⟩
set_option maxRecDepth 100000 in
theorem nob_stopped (o : Option Addr) (w : World) (h : Nob w o) : Calls Try.prog 14 #[.pointer o] w fun e w' => e = .returned (.bool false) ∧ w' = w := by
  have h0 : ∀ W, Ext w W → Calls Try.prog 31 #[.pointer o] W fun e w' => e = .returned (.bool true) ∧ w' = W := fun W hE => nob_none o W (h.ext hE)
  replace h0 := hide h0
  go_enter Try.func14, Try.ntmps14
  go_wp2_with fail
  refine (h0.out _ (by first | exact Ext.refl _ | exact (Ext.refl _).alloc _ | exact ((Ext.refl _).alloc _).alloc _ | exact (Ext.refl _).drew | exact ((Ext.refl _).alloc _).drew | exact ((Ext.refl _).drew).alloc _)).mono ?_
  rintro e w1 ⟨rfl, rfl⟩
  go_wp2_with fail
  go_ret
  exact ⟨rfl, rfl⟩
set_option maxRecDepth 100000 in
theorem nob_restart (o : Option Addr) (A : Option Addr) (n c : Nat) (w : World) (h : Nob w o) : Calls Try.prog 20 #[.pointer o, .slice A n c] w fun e w' => e = .returned (.tuple #[]) ∧ w' = w := by
  have h0 : ∀ W, Ext w W → Calls Try.prog 31 #[.pointer o] W fun e w' => e = .returned (.bool true) ∧ w' = W := fun W hE => nob_none o W (h.ext hE)
  replace h0 := hide h0
  go_enter Try.func20, Try.ntmps20
  go_wp2_with fail
  refine (h0.out _ (by first | exact Ext.refl _ | exact (Ext.refl _).alloc _ | exact ((Ext.refl _).alloc _).alloc _ | exact (Ext.refl _).drew | exact ((Ext.refl _).alloc _).drew | exact ((Ext.refl _).drew).alloc _)).mono ?_
  rintro e w1 ⟨rfl, rfl⟩
  go_wp2_with fail
  refine bodyPost_ret (v := .tuple #[]) (by simp [results, Try.results20, go_sem]) rfl ?_
  exact ⟨rfl, rfl⟩
set_option maxRecDepth 100000 in
theorem nob_durable (o : Option Addr) (s : List UInt8) (w : World) (h : Nob w o) : Calls Try.prog 23 #[.pointer o, str s] w fun e w' => e = .returned (.int .i64 0) ∧ w' = w := by
  unfold str
  have h0 : ∀ W, Ext w W → Calls Try.prog 31 #[.pointer o] W fun e w' => e = .returned (.bool true) ∧ w' = W := fun W hE => nob_none o W (h.ext hE)
  replace h0 := hide h0
  go_enter Try.func23, Try.ntmps23
  go_wp2_with fail
  refine (h0.out _ (by first | exact Ext.refl _ | exact (Ext.refl _).alloc _ | exact ((Ext.refl _).alloc _).alloc _ | exact (Ext.refl _).drew | exact ((Ext.refl _).alloc _).drew | exact ((Ext.refl _).drew).alloc _)).mono ?_
  rintro e w1 ⟨rfl, rfl⟩
  go_wp2_with fail
  go_ret
  exact ⟨rfl, rfl⟩
set_option maxRecDepth 100000 in
theorem nob_fork (o : Option Addr) (w : World) (h : Nob w o) : Calls Try.prog 13 #[.pointer o] w fun e w' => e = .returned (.pointer none) ∧ w' = w := by
  have h0 : ∀ W, Ext w W → Calls Try.prog 31 #[.pointer o] W fun e w' => e = .returned (.bool true) ∧ w' = W := fun W hE => nob_none o W (h.ext hE)
  replace h0 := hide h0
  go_enter Try.func13, Try.ntmps13
  go_wp2_with fail
  refine (h0.out _ (by first | exact Ext.refl _ | exact (Ext.refl _).alloc _ | exact ((Ext.refl _).alloc _).alloc _ | exact (Ext.refl _).drew | exact ((Ext.refl _).alloc _).drew | exact ((Ext.refl _).drew).alloc _)).mono ?_
  rintro e w1 ⟨rfl, rfl⟩
  go_wp2_with fail
  go_ret
  exact ⟨rfl, rfl⟩
set_option maxRecDepth 100000 in
theorem nob_append (o : Option Addr) (s : List UInt8) (A : Option Addr) (n c : Nat) (w : World) (h : Nob w o) : Calls Try.prog 10 #[.pointer o, str s, .slice A n c] w fun e w' => e = .returned (.int .i64 4) ∧ Ext w w' := by
  unfold str
  have h0 : ∀ A n c W, Ext w W → Calls Try.prog 29 #[.pointer o, .slice A n c] W fun e w' => e = .returned (.int .i64 4) ∧ w' = W := fun A n c W hE => nob_may o A n c W (h.ext hE)
  replace h0 := hide h0
  go_enter Try.func10, Try.ntmps10
  go_wp2_with fail
  refine (h0.out _ _ _ _ (by first | exact Ext.refl _ | exact (Ext.refl _).alloc _ | exact ((Ext.refl _).alloc _).alloc _ | exact (Ext.refl _).drew | exact ((Ext.refl _).alloc _).drew | exact ((Ext.refl _).drew).alloc _)).mono ?_
  rintro e w1 ⟨rfl, rfl⟩
  go_wp2_with fail
  go_ret
  exact ⟨rfl, by first | exact Ext.refl _ | exact (Ext.refl _).alloc _ | exact ((Ext.refl _).alloc _).drew | exact (Ext.refl _).drew⟩
set_option maxRecDepth 100000 in
theorem nob_read (o : Option Addr) (s : List UInt8) (fr n : Int) (w : World) (h : Nob w o) : Calls Try.prog 21 #[.pointer o, str s, .int .i64 fr, .int .i64 n] w fun e w' => e = .returned (.tuple #[.slice none 0 0, .int .i64 4]) ∧ Ext w w' := by
  unfold str
  have h0 : ∀ A n c W, Ext w W → Calls Try.prog 29 #[.pointer o, .slice A n c] W fun e w' => e = .returned (.int .i64 4) ∧ w' = W := fun A n c W hE => nob_may o A n c W (h.ext hE)
  replace h0 := hide h0
  go_enter Try.func21, Try.ntmps21
  go_wp2_with fail
  refine (h0.out _ _ _ _ (by first | exact Ext.refl _ | exact (Ext.refl _).alloc _ | exact ((Ext.refl _).alloc _).alloc _ | exact (Ext.refl _).drew | exact ((Ext.refl _).alloc _).drew | exact ((Ext.refl _).drew).alloc _)).mono ?_
  rintro e w1 ⟨rfl, rfl⟩
  go_wp2_with fail
  go_ret2
  exact ⟨rfl, by first | exact Ext.refl _ | exact (Ext.refl _).alloc _ | exact ((Ext.refl _).alloc _).drew | exact (Ext.refl _).drew⟩
set_option maxRecDepth 100000 in
set_option maxHeartbeats 2000000 in
theorem nob_writes (o : Option Addr) (s : List UInt8) (ns : List (List UInt8)) (fv : Value) (A : Option Addr) (n c b0 : Nat) (w : World) (hn2 : n ≤ 100) (hb0 : b0 ≤ w.heap.size) (ho : w.ownsRow b0 9 1 (.slice A n c) n (ns.map str))
    (h : ∀ W, Chg (fun i => ∃ a, A = some a ∧ a.block = i) w W → Nob W o) :
    Calls Try.prog 41 #[.pointer o, str s, fv, .slice A n c] w fun e w' => e = .returned (.int .i64 4) ∧ Chg (fun i => ∃ a, A = some a ∧ a.block = i) w w' := by
  unfold str
  have hown : ∀ g, (Value.slice A n c).ownBlock = some g → ∃ a, A = some a ∧ a.block = g := by
    intro g hg
    cases A with
    | none => cases hg
    | some a =>
      refine ⟨a, rfl, ?_⟩
      rcases ho.2 with ⟨h, _⟩ | ⟨g', cap, cur, h, _⟩
      · cases h
      · cases h
        simpa [Value.ownBlock] using hg
  have h0 : ∀ A' n' c' W, Chg (fun i => ∃ a, A = some a ∧ a.block = i) w W → Calls Try.prog 29 #[.pointer o, .slice A' n' c'] W fun e w' => e = .returned (.int .i64 4) ∧ w' = W := fun A' n' c' W hE => nob_may o A' n' c' W (h W hE)
  replace h0 := hide h0
  replace hown := hide hown
  go_enter Try.func41, Try.ntmps41
  go_wp2_with (at_builtin; refine wpList_appN (us := [.string ⟨s.toArray⟩]) elemS ho (.tmp 14) (.tmp 16) rfl rfl rfl rfl (one_of rfl) (by simp; omega) hb0 (fun A1 c1 w3 ho3 hg3 hl3 => ?_))
  have hc3 : Chg (fun i => ∃ a, A = some a ∧ a.block = i) w w3 := Chg.of_grown hg3 fun i _ hi => hown.out i hi
  have hl1 : [Value.string ⟨s.toArray⟩].length = 1 := rfl
  simp only [List.length_singleton] at ho3 ⊢
  clear ho3 hl3 hg3 ho hl1
  replace hc3 := hide hc3
  go_wp2_with fail
  refine (h0.out _ _ _ _ hc3.out).mono ?_
  rintro e w1 ⟨rfl, rfl⟩
  go_wp2_with fail
  go_ret
  exact ⟨rfl, hc3.out⟩
set_option maxRecDepth 100000 in
set_option maxHeartbeats 2000000 in
theorem nob_sync (o : Option Addr) (s : List UInt8) (w : World) (h : Nob w o) : Calls Try.prog 17 #[.pointer o, str s] w fun e w' => e = .returned (.int .i64 4) ∧ Ext w w' := by
  have hw : ∀ fv : Value, Calls Try.prog 41 #[.pointer o, str s, fv, .slice none 0 0] w fun e w' => e = .returned (.int .i64 4) ∧ Chg (fun i => ∃ a, (none : Option Addr) = some a ∧ a.block = i) w w' := fun fv =>
    nob_writes o s [] fv none 0 0 _ w (by omega) (Nat.le_refl _) (World.ownsRow_nil _ _ _ _) fun W hc => (h.ext (Ext.refl w)).ext (hc.ext fun i _ hi => by obtain ⟨a, ha, _⟩ := hi; cases ha)
  have fin : ∀ w1, Chg (fun i => ∃ a, (none : Option Addr) = some a ∧ a.block = i) w w1 → Ext w w1 := fun w1 hc => Ext.trans (Ext.refl w) (hc.ext fun i _ hi => by obtain ⟨a, ha, _⟩ := hi; cases ha)
  unfold str at hw ⊢
  replace hw := hide hw
  replace fin := hide fin
  go_enter Try.func17, Try.ntmps17
  go_wp2_with fail
  refine (hw.out _).mono ?_
  rintro e w1 ⟨rfl, h1⟩
  replace h1 := fin.out w1 h1
  go_wp2_with fail
  go_ret
  exact ⟨rfl, h1⟩
set_option maxRecDepth 100000 in
set_option maxHeartbeats 2000000 in
theorem nob_remove (o : Option Addr) (s : List UInt8) (w : World) (h : Nob w o) : Calls Try.prog 19 #[.pointer o, str s] w fun e w' => e = .returned (.int .i64 4) ∧ Ext w w' := by
  have hw : ∀ fv : Value, Calls Try.prog 41 #[.pointer o, str s, fv, .slice none 0 0] ((w.alloc (.cells #[.pointer o] 22)).alloc (.cells #[str s] 9)) fun e w' => e = .returned (.int .i64 4) ∧ Chg (fun i => ∃ a, (none : Option Addr) = some a ∧ a.block = i) ((w.alloc (.cells #[.pointer o] 22)).alloc (.cells #[str s] 9)) w' := fun fv =>
    nob_writes o s [] fv none 0 0 _ ((w.alloc (.cells #[.pointer o] 22)).alloc (.cells #[str s] 9)) (by omega) (Nat.le_refl _) (World.ownsRow_nil _ _ _ _) fun W hc => (h.ext (((Ext.refl w).alloc _).alloc _)).ext (hc.ext fun i _ hi => by obtain ⟨a, ha, _⟩ := hi; cases ha)
  have fin : ∀ w1, Chg (fun i => ∃ a, (none : Option Addr) = some a ∧ a.block = i) ((w.alloc (.cells #[.pointer o] 22)).alloc (.cells #[str s] 9)) w1 → Ext w w1 := fun w1 hc => Ext.trans (((Ext.refl w).alloc _).alloc _) (hc.ext fun i _ hi => by obtain ⟨a, ha, _⟩ := hi; cases ha)
  unfold str at hw fin ⊢
  replace hw := hide hw
  replace fin := hide fin
  go_enter Try.func19, Try.ntmps19
  go_wp2_with fail
  refine (hw.out _).mono ?_
  rintro e w1 ⟨rfl, h1⟩
  replace h1 := fin.out w1 h1
  go_wp2_with fail
  go_ret
  exact ⟨rfl, h1⟩
set_option maxRecDepth 100000 in
set_option maxHeartbeats 2000000 in
theorem nob_rename (o : Option Addr) (s t : List UInt8) (w : World) (h : Nob w o) : Calls Try.prog 18 #[.pointer o, str s, str t] w fun e w' => e = .returned (.int .i64 4) ∧ Ext w w' := by
  obtain ⟨W1, hW1⟩ : ∃ W1, W1 = w.alloc (.cells #[.pointer o] 22) := ⟨_, rfl⟩
  obtain ⟨W2, hW2⟩ : ∃ W2, W2 = W1.alloc (.cells #[str s] 9) := ⟨_, rfl⟩
  obtain ⟨W3, hW3⟩ : ∃ W3, W3 = W2.alloc (.cells #[str t] 9) := ⟨_, rfl⟩
  obtain ⟨W4, hW4⟩ : ∃ W4, W4 = W3.alloc (.cells #[str t] 9) := ⟨_, rfl⟩
  have hE1 : Ext w W1 := by rw [hW1]; exact (Ext.refl w).alloc _
  have hE2 : Ext W1 W2 := by rw [hW2]; exact (Ext.refl W1).alloc _
  have hE3 : Ext W2 W3 := by rw [hW3]; exact (Ext.refl W2).alloc _
  have hE4 : Ext W3 W4 := by rw [hW4]; exact (Ext.refl W3).alloc _
  have hs1 : W1.heap.size = w.heap.size + 1 := by rw [hW1]; exact size_alloc _ _
  have hs2 : W2.heap.size = w.heap.size + 2 := by rw [hW2, size_alloc, hs1]
  have hs3 : W3.heap.size = w.heap.size + 3 := by rw [hW3, size_alloc, hs2]
  have hs4 : W4.heap.size = w.heap.size + 4 := by rw [hW4, size_alloc, hs3]
  have hE := ((hE1.trans hE2).trans hE3).trans hE4
  have hown : W4.ownsRow (w.heap.size + 3) 9 1 (.slice (some ⟨w.heap.size + 3, 0, none⟩) 1 1) 1 ([t].map str) := by
    refine ⟨rfl, .inr ⟨w.heap.size + 3, 1, #[str t], rfl, Nat.le_refl _, ?_, Nat.le_refl _, by unfold maxLen; omega, rfl, rfl⟩⟩
    rw [hW4, ← hs3]
    exact heap_alloc_new W3 _
  have fin : ∀ w1, Chg (fun i => ∃ a, (some (⟨w.heap.size + 3, 0, none⟩ : Addr)) = some a ∧ a.block = i) W4 w1 → Ext w w1 := fun w1 hc => hE.chg hc fun i hi hf => by
    obtain ⟨a, ha, hf⟩ := hf
    cases ha
    have : w.heap.size + 3 = i := hf
    omega
  have hw : ∀ fv : Value, Calls Try.prog 41 #[.pointer o, str s, fv, .slice (some ⟨w.heap.size + 3, 0, none⟩) 1 1] W4 fun e w' => e = .returned (.int .i64 4) ∧ Chg (fun i => ∃ a, (some (⟨w.heap.size + 3, 0, none⟩ : Addr)) = some a ∧ a.block = i) W4 w' := fun fv =>
    nob_writes o s [t] fv (some ⟨w.heap.size + 3, 0, none⟩) 1 1 (w.heap.size + 3) W4 (by omega) (by omega) hown fun W hc => h.ext (fin W hc)
  rw [hW4, hW3, hW2, hW1] at hw fin
  unfold str at hw fin ⊢
  replace hw := hide hw
  replace fin := hide fin
  clear hW1 hW2 hW3 hW4 hs1 hs2 hs3 hs4 hE1 hE2 hE3 hE4 hE hown
  go_enter Try.func18, Try.ntmps18
  go_wp2_with fail
  refine (hw.out _).mono ?_
  rintro e w1 ⟨rfl, h1⟩
  replace h1 := fin.out w1 h1
  go_wp2_with fail
  go_ret
  exact ⟨rfl, h1⟩
end Go.Proofs.Yticnncgbfpgeaaa

/- loggialaw06: DiskNobody walked. -/
namespace Go.Proofs.Yticnncgbfpgeaaa
open Go.RowKit Go.Maps

set_option maxRecDepth 100000 in
set_option maxHeartbeats 4000000 in
theorem nobody_any (o : Opr) (w : World) (h : OOk w w.heap.size o) : Calls Try.prog 7 #[o.val] w fun e w' => e = .returned (.bool true) ∧ Ext w w' := by
  have haw : ∀ W : World, Calls Try.prog 9 #[] W fun e w' => e = .returned (.bool true) ∧ Ext W w' := awake_any
  replace haw := hide haw
  have hsh : ∀ W, Ext w W → Calls Try.prog 12 #[o.val] W fun e w' => e = .returned o.short.val ∧ Ext W w' := fun W hE => short_any w.heap.size o W (h.ext hE)
  have hl := h.short.2
  obtain ⟨o2, ho2⟩ : ∃ o2, o2 = o.short := ⟨_, rfl⟩
  rw [← ho2] at hsh hl
  clear ho2
  unfold Opr.val str at hsh ⊢
  replace hsh := hide hsh
  replace hl := hide hl
  go_enter Try.func7, Try.ntmps7
  go_wp2_with fail
  refine (hsh.out _ ((Ext.refl w).alloc _)).mono ?_
  rintro e w4 ⟨rfl, hE4⟩
  have hE04 : Ext w w4 := ((Ext.refl w).alloc _).trans hE4
  have hbx : Row w4 w.heap.size 41 #[.int .u8 o.kd, .string ⟨o.name.toArray⟩, .string ⟨o.nto.toArray⟩, .slice o.BA o.b.length o.bc, .int .i64 o.a, .int .i64 o.n, .slice o.KA o.keep.length o.kc] := (Row.new w _ _).ext hE4
  have x0 := hbx.cell 0 rfl
  have y0 := hbx.free 0
  have x1 := hbx.cell 1 rfl
  have y1 := hbx.free 1
  have x2 := hbx.cell 2 rfl
  have y2 := hbx.free 2
  have x3 := hbx.cell 3 rfl
  have y3 := hbx.free 3
  have x4 := hbx.cell 4 rfl
  have y4 := hbx.free 4
  have x5 := hbx.cell 5 rfl
  have y5 := hbx.free 5
  have x6 := hbx.cell 6 rfl
  have y6 := hbx.free 6
  go_upto_region 3 with (fail)
  obtain ⟨w5, hw5⟩ : ∃ w5, w5 = (((((((w4.setCell ⟨w.heap.size, 0, none⟩ (.int .u8 o2.kd)).setCell ⟨w.heap.size, 1, none⟩ (.string ⟨o2.name.toArray⟩)).setCell ⟨w.heap.size, 2, none⟩ (.string ⟨o2.nto.toArray⟩)).setCell ⟨w.heap.size, 3, none⟩ (.slice o2.BA o2.b.length o2.bc)).setCell ⟨w.heap.size, 4, none⟩ (.int .i64 o2.a)).setCell ⟨w.heap.size, 5, none⟩ (.int .i64 o2.n)).setCell ⟨w.heap.size, 6, none⟩ (.slice o2.KA o2.keep.length o2.kc)) := ⟨_, rfl⟩
  rw [← hw5]
  have hbx5 : Row w5 w.heap.size 41 #[.int .u8 o2.kd, .string ⟨o2.name.toArray⟩, .string ⟨o2.nto.toArray⟩, .slice o2.BA o2.b.length o2.bc, .int .i64 o2.a, .int .i64 o2.n, .slice o2.KA o2.keep.length o2.kc] := by rw [hw5]; exact (((((((hbx.put 0 _).put 1 _).put 2 _).put 3 _).put 4 _).put 5 _).put 6 _)
  have hE05 : Ext w w5 := by rw [hw5]; exact (((((((hE04.setCell (p := ⟨w.heap.size, 0, none⟩) (Nat.le_refl _) _).setCell (p := ⟨w.heap.size, 1, none⟩) (Nat.le_refl _) _).setCell (p := ⟨w.heap.size, 2, none⟩) (Nat.le_refl _) _).setCell (p := ⟨w.heap.size, 3, none⟩) (Nat.le_refl _) _).setCell (p := ⟨w.heap.size, 4, none⟩) (Nat.le_refl _) _).setCell (p := ⟨w.heap.size, 5, none⟩) (Nat.le_refl _) _).setCell (p := ⟨w.heap.size, 6, none⟩) (Nat.le_refl _) _)
  clear hw5 x0 y0 x1 y1 x2 y2 x3 y3 x4 y4 x5 y5 x6 y6 hbx hE04 hE4
  go_wp2_with fail
  have hs6 : (w5.alloc (.cells #[.map none, .int .i64 0, .int .i64 0, .bool false] 63)).heap.size = w5.heap.size + 1 := size_alloc _ _
  obtain ⟨w6, hw6⟩ : ∃ w6, w6 = (w5.alloc (.cells #[.map none, .int .i64 0, .int .i64 0, .bool false] 63)).alloc (.cells #[.pointer none, .pointer (some ⟨w5.heap.size, 0, none⟩)] 22) := ⟨_, rfl⟩
  have hbx6 : Row w6 w.heap.size 41 #[.int .u8 o2.kd, .string ⟨o2.name.toArray⟩, .string ⟨o2.nto.toArray⟩, .slice o2.BA o2.b.length o2.bc, .int .i64 o2.a, .int .i64 o2.n, .slice o2.KA o2.keep.length o2.kc] := by rw [hw6]; exact (hbx5.alloc _).alloc _
  have hE06 : Ext w w6 := by rw [hw6]; exact (hE05.alloc _).alloc _
  have hdk6 : Row w6 w5.heap.size 63 #[.map none, .int .i64 0, .int .i64 0, .bool false] := by rw [hw6]; exact (Row.new w5 _ _).alloc _
  have hrw6 : Row w6 (w5.heap.size + 1) 22 #[.pointer none, .pointer (some ⟨w5.heap.size, 0, none⟩)] := by rw [hw6, ← hs6]; exact Row.new _ _ _
  have hln : w.heap.size ≤ w5.heap.size := hE05.size
  try rw [← hw6]
  clear hw6 hs6
  obtain ⟨g, hg⟩ : ∃ g, g = w5.heap.size + 1 := ⟨_, rfl⟩
  rw [← hg] at hrw6
  try rw [← hg]
  replace hg := hide hg
  go_loopw [5] (fun s5 wr => ∃ i : Nat, s5 = .int .i64 i ∧ i ≤ 2 ∧ Hid (Ext w6 wr)) (fun s5 _ => 2 - (intOf s5).toNat)
  case atStart => exact ⟨0, rfl, by omega, hide (Ext.refl w6)⟩
  case round =>
    obtain ⟨i, rfl, hi, hE⟩ := hrel
    by_cases hin : i < 2
    · have hbr := hbx6.ext hE.out
      have hrr := hrw6.ext hE.out
      obtain ⟨po, hpo, hnob⟩ : ∃ po, wr.cell? ⟨g, i, none⟩ = some (.pointer po) ∧ Nob wr po := by
        have hi2 : i = 0 ∨ i = 1 := by omega
        rcases hi2 with rfl | rfl
        · exact ⟨none, hrr.cell 0 rfl, .inl rfl⟩
        · exact ⟨some ⟨w5.heap.size, 0, none⟩, hrr.cell 1 rfl, .inr ⟨_, rfl, hdk6.ext hE.out⟩⟩
      have x1 := hbr.cell 1 rfl
      have x2 := hbr.cell 2 rfl
      have x3 := hbr.cell 3 rfl
      have x4 := hbr.cell 4 rfl
      have x6 := hbr.cell 6 rfl
      have c1 := nob_arm po o2.a wr hnob
      have c2 := nob_restart po o2.KA o2.keep.length o2.kc wr hnob
      have c3 := nob_size po o2.name wr hnob
      have c4 := nob_read po o2.name 0 1 wr hnob
      unfold str at c3 c4
      replace c1 := hide c1
      replace c2 := hide c2
      replace c3 := hide c3
      replace c4 := hide c4
      replace hnob := hide hnob
      go_wp2_with fail
      refine c1.out.mono ?_
      rintro e v1 ⟨rfl, rfl⟩
      go_wp2_with fail
      refine c2.out.mono ?_
      rintro e v2 ⟨rfl, rfl⟩
      go_wp2_with fail
      refine c3.out.mono ?_
      rintro e v3 ⟨rfl, rfl⟩
      go_wp2_with fail
      refine c4.out.mono ?_
      rintro e w7 ⟨rfl, hE7⟩
      have hb7 := hbr.ext hE7
      have n7 := hnob.out.ext hE7
      have z1 := hb7.cell 1 rfl
      have z2 := hb7.cell 2 rfl
      have z3 := hb7.cell 3 rfl
      have z4 := hb7.cell 4 rfl
      have hE67 := hide (hE.out.trans hE7)
      clear c1 c2 c3 c4 x1 x2 x3 x4 x6 hpo hrr hbr hb7
      go_upto_region 12 with (fail)
      go_cut [120] from 17 to 120 (fun s120 wv => s120 = .bool false ∧ Ext w7 wv)
      case first =>
        have hkp : ∀ w0 w1 : World, (w0.cell? ⟨w.heap.size, 1, none⟩ = some (.string ⟨o2.name.toArray⟩) ∧ w0.cell? ⟨w.heap.size, 2, none⟩ = some (.string ⟨o2.nto.toArray⟩) ∧ w0.cell? ⟨w.heap.size, 3, none⟩ = some (.slice o2.BA o2.b.length o2.bc) ∧ w0.cell? ⟨w.heap.size, 4, none⟩ = some (.int .i64 o2.a) ∧ Nob w0 po ∧ Ext w7 w0) → Ext w0 w1 → (w1.cell? ⟨w.heap.size, 1, none⟩ = some (.string ⟨o2.name.toArray⟩) ∧ w1.cell? ⟨w.heap.size, 2, none⟩ = some (.string ⟨o2.nto.toArray⟩) ∧ w1.cell? ⟨w.heap.size, 3, none⟩ = some (.slice o2.BA o2.b.length o2.bc) ∧ w1.cell? ⟨w.heap.size, 4, none⟩ = some (.int .i64 o2.a) ∧ Nob w1 po ∧ Ext w7 w1) := fun w0 w1 h1 h3 => ⟨h3.cell h1.1, h3.cell h1.2.1, h3.cell h1.2.2.1, h3.cell h1.2.2.2.1, h1.2.2.2.2.1.ext h3, h1.2.2.2.2.2.trans h3⟩
        have hS0 : w7.drew.cell? ⟨w.heap.size, 1, none⟩ = some (.string ⟨o2.name.toArray⟩) ∧ w7.drew.cell? ⟨w.heap.size, 2, none⟩ = some (.string ⟨o2.nto.toArray⟩) ∧ w7.drew.cell? ⟨w.heap.size, 3, none⟩ = some (.slice o2.BA o2.b.length o2.bc) ∧ w7.drew.cell? ⟨w.heap.size, 4, none⟩ = some (.int .i64 o2.a) ∧ Nob w7.drew po ∧ Ext w7 w7.drew := ⟨z1, z2, z3, z4, n7.ext (Ext.refl w7).drew, (Ext.refl w7).drew⟩
        have hS1 : w7.cell? ⟨w.heap.size, 1, none⟩ = some (.string ⟨o2.name.toArray⟩) ∧ w7.cell? ⟨w.heap.size, 2, none⟩ = some (.string ⟨o2.nto.toArray⟩) ∧ w7.cell? ⟨w.heap.size, 3, none⟩ = some (.slice o2.BA o2.b.length o2.bc) ∧ w7.cell? ⟨w.heap.size, 4, none⟩ = some (.int .i64 o2.a) ∧ Nob w7 po ∧ Ext w7 w7 := ⟨z1, z2, z3, z4, n7, Ext.refl w7⟩
        have hap : ∀ w0 : World, (w0.cell? ⟨w.heap.size, 1, none⟩ = some (.string ⟨o2.name.toArray⟩) ∧ w0.cell? ⟨w.heap.size, 2, none⟩ = some (.string ⟨o2.nto.toArray⟩) ∧ w0.cell? ⟨w.heap.size, 3, none⟩ = some (.slice o2.BA o2.b.length o2.bc) ∧ w0.cell? ⟨w.heap.size, 4, none⟩ = some (.int .i64 o2.a) ∧ Nob w0 po ∧ Ext w7 w0) → Calls Try.prog 10 #[.pointer po, .string ⟨o2.name.toArray⟩, .slice o2.BA o2.b.length o2.bc] w0 fun e w' => e = .returned (.int .i64 4) ∧ Ext w0 w' := fun w0 h0 => by have := nob_append po o2.name o2.BA o2.b.length o2.bc w0 h0.2.2.2.2.1; unfold str at this; exact this
        have hsy : ∀ w0 : World, (w0.cell? ⟨w.heap.size, 1, none⟩ = some (.string ⟨o2.name.toArray⟩) ∧ w0.cell? ⟨w.heap.size, 2, none⟩ = some (.string ⟨o2.nto.toArray⟩) ∧ w0.cell? ⟨w.heap.size, 3, none⟩ = some (.slice o2.BA o2.b.length o2.bc) ∧ w0.cell? ⟨w.heap.size, 4, none⟩ = some (.int .i64 o2.a) ∧ Nob w0 po ∧ Ext w7 w0) → Calls Try.prog 17 #[.pointer po, .string ⟨o2.name.toArray⟩] w0 fun e w' => e = .returned (.int .i64 4) ∧ Ext w0 w' := fun w0 h0 => by have := nob_sync po o2.name w0 h0.2.2.2.2.1; unfold str at this; exact this
        have hre : ∀ w0 : World, (w0.cell? ⟨w.heap.size, 1, none⟩ = some (.string ⟨o2.name.toArray⟩) ∧ w0.cell? ⟨w.heap.size, 2, none⟩ = some (.string ⟨o2.nto.toArray⟩) ∧ w0.cell? ⟨w.heap.size, 3, none⟩ = some (.slice o2.BA o2.b.length o2.bc) ∧ w0.cell? ⟨w.heap.size, 4, none⟩ = some (.int .i64 o2.a) ∧ Nob w0 po ∧ Ext w7 w0) → Calls Try.prog 18 #[.pointer po, .string ⟨o2.name.toArray⟩, .string ⟨o2.nto.toArray⟩] w0 fun e w' => e = .returned (.int .i64 4) ∧ Ext w0 w' := fun w0 h0 => by have := nob_rename po o2.name o2.nto w0 h0.2.2.2.2.1; unfold str at this; exact this
        have hrm : ∀ w0 : World, (w0.cell? ⟨w.heap.size, 1, none⟩ = some (.string ⟨o2.name.toArray⟩) ∧ w0.cell? ⟨w.heap.size, 2, none⟩ = some (.string ⟨o2.nto.toArray⟩) ∧ w0.cell? ⟨w.heap.size, 3, none⟩ = some (.slice o2.BA o2.b.length o2.bc) ∧ w0.cell? ⟨w.heap.size, 4, none⟩ = some (.int .i64 o2.a) ∧ Nob w0 po ∧ Ext w7 w0) → Calls Try.prog 19 #[.pointer po, .string ⟨o2.name.toArray⟩] w0 fun e w' => e = .returned (.int .i64 4) ∧ Ext w0 w' := fun w0 h0 => by have := nob_remove po o2.name w0 h0.2.2.2.2.1; unfold str at this; exact this
        have hqu : ∀ w0 : World, (w0.cell? ⟨w.heap.size, 1, none⟩ = some (.string ⟨o2.name.toArray⟩) ∧ w0.cell? ⟨w.heap.size, 2, none⟩ = some (.string ⟨o2.nto.toArray⟩) ∧ w0.cell? ⟨w.heap.size, 3, none⟩ = some (.slice o2.BA o2.b.length o2.bc) ∧ w0.cell? ⟨w.heap.size, 4, none⟩ = some (.int .i64 o2.a) ∧ Nob w0 po ∧ Ext w7 w0) → Calls Try.prog 28 #[.pointer po, .int .i64 o2.a] w0 fun e w' => e = .returned (.int .i64 4) ∧ w' = w0 := fun w0 h0 => nob_quota po o2.a w0 h0.2.2.2.2.1
        have hli : ∀ w0 : World, (w0.cell? ⟨w.heap.size, 1, none⟩ = some (.string ⟨o2.name.toArray⟩) ∧ w0.cell? ⟨w.heap.size, 2, none⟩ = some (.string ⟨o2.nto.toArray⟩) ∧ w0.cell? ⟨w.heap.size, 3, none⟩ = some (.slice o2.BA o2.b.length o2.bc) ∧ w0.cell? ⟨w.heap.size, 4, none⟩ = some (.int .i64 o2.a) ∧ Nob w0 po ∧ Ext w7 w0) → Calls Try.prog 11 #[.pointer po] w0 fun e w' => e = .returned (.slice none 0 0) ∧ w' = w0 := fun w0 h0 => nob_list po w0 h0.2.2.2.2.1
        have hus : ∀ w0 : World, (w0.cell? ⟨w.heap.size, 1, none⟩ = some (.string ⟨o2.name.toArray⟩) ∧ w0.cell? ⟨w.heap.size, 2, none⟩ = some (.string ⟨o2.nto.toArray⟩) ∧ w0.cell? ⟨w.heap.size, 3, none⟩ = some (.slice o2.BA o2.b.length o2.bc) ∧ w0.cell? ⟨w.heap.size, 4, none⟩ = some (.int .i64 o2.a) ∧ Nob w0 po ∧ Ext w7 w0) → Calls Try.prog 16 #[.pointer po] w0 fun e w' => e = .returned (.int .i64 0) ∧ w' = w0 := fun w0 h0 => nob_used po w0 h0.2.2.2.2.1
        have hdu : ∀ w0 : World, (w0.cell? ⟨w.heap.size, 1, none⟩ = some (.string ⟨o2.name.toArray⟩) ∧ w0.cell? ⟨w.heap.size, 2, none⟩ = some (.string ⟨o2.nto.toArray⟩) ∧ w0.cell? ⟨w.heap.size, 3, none⟩ = some (.slice o2.BA o2.b.length o2.bc) ∧ w0.cell? ⟨w.heap.size, 4, none⟩ = some (.int .i64 o2.a) ∧ Nob w0 po ∧ Ext w7 w0) → Calls Try.prog 23 #[.pointer po, .string ⟨o2.name.toArray⟩] w0 fun e w' => e = .returned (.int .i64 0) ∧ w' = w0 := fun w0 h0 => by have := nob_durable po o2.name w0 h0.2.2.2.2.1; unfold str at this; exact this
        have hst : ∀ w0 : World, (w0.cell? ⟨w.heap.size, 1, none⟩ = some (.string ⟨o2.name.toArray⟩) ∧ w0.cell? ⟨w.heap.size, 2, none⟩ = some (.string ⟨o2.nto.toArray⟩) ∧ w0.cell? ⟨w.heap.size, 3, none⟩ = some (.slice o2.BA o2.b.length o2.bc) ∧ w0.cell? ⟨w.heap.size, 4, none⟩ = some (.int .i64 o2.a) ∧ Nob w0 po ∧ Ext w7 w0) → Calls Try.prog 14 #[.pointer po] w0 fun e w' => e = .returned (.bool false) ∧ w' = w0 := fun w0 h0 => nob_stopped po w0 h0.2.2.2.2.1
        have hfo : ∀ w0 : World, (w0.cell? ⟨w.heap.size, 1, none⟩ = some (.string ⟨o2.name.toArray⟩) ∧ w0.cell? ⟨w.heap.size, 2, none⟩ = some (.string ⟨o2.nto.toArray⟩) ∧ w0.cell? ⟨w.heap.size, 3, none⟩ = some (.slice o2.BA o2.b.length o2.bc) ∧ w0.cell? ⟨w.heap.size, 4, none⟩ = some (.int .i64 o2.a) ∧ Nob w0 po ∧ Ext w7 w0) → Calls Try.prog 13 #[.pointer po] w0 fun e w' => e = .returned (.pointer none) ∧ w' = w0 := fun w0 h0 => nob_fork po w0 h0.2.2.2.2.1
        replace hap := hide hap
        replace hsy := hide hsy
        replace hre := hide hre
        replace hrm := hide hrm
        replace hqu := hide hqu
        replace hli := hide hli
        replace hus := hide hus
        replace hdu := hide hdu
        replace hst := hide hst
        replace hfo := hide hfo
        replace hkp := hide hkp
        replace hS0 := hide hS0
        replace hS1 := hide hS1
        replace n7 := hide n7
        simp only [List.append]
        go_region_held3 (fun w' => w'.cell? ⟨w.heap.size, 1, none⟩ = some (.string ⟨o2.name.toArray⟩) ∧ w'.cell? ⟨w.heap.size, 2, none⟩ = some (.string ⟨o2.nto.toArray⟩) ∧ w'.cell? ⟨w.heap.size, 3, none⟩ = some (.slice o2.BA o2.b.length o2.bc) ∧ w'.cell? ⟨w.heap.size, 4, none⟩ = some (.int .i64 o2.a) ∧ Nob w' po ∧ Ext w7 w') (first | exact hS0.out | exact hS1.out | exact ‹_› | exact hkp.out _ _ ‹_› ‹_›) (first
              | (go_at_call 10; refine (hap.out _ ‹_›).mono ?_; rintro e wa ⟨rfl, hEa⟩)
              | (go_at_call 17; refine (hsy.out _ ‹_›).mono ?_; rintro e wb ⟨rfl, hEb⟩)
              | (go_at_call 18; refine (hre.out _ ‹_›).mono ?_; rintro e wd ⟨rfl, hEd⟩)
              | (go_at_call 19; refine (hrm.out _ ‹_›).mono ?_; rintro e we ⟨rfl, hEe⟩)
              | (go_at_call 28; refine (hqu.out _ ‹_›).mono ?_; rintro e wf ⟨rfl, rfl⟩)
              | (go_at_call 11; refine (hli.out _ ‹_›).mono ?_; rintro e wf ⟨rfl, rfl⟩)
              | (go_at_call 16; refine (hus.out _ ‹_›).mono ?_; rintro e wf ⟨rfl, rfl⟩)
              | (go_at_call 23; refine (hdu.out _ ‹_›).mono ?_; rintro e wf ⟨rfl, rfl⟩)
              | (go_at_call 14; refine (hst.out _ ‹_›).mono ?_; rintro e wf ⟨rfl, rfl⟩)
              | (go_at_call 13; refine (hfo.out _ ‹_›).mono ?_; rintro e wf ⟨rfl, rfl⟩))
        go_wp2_with fail
        go_meet
        case rel => exact ⟨rfl, ((((Ext.refl w7).drew.trans hEa).trans hEb).trans hEd).trans hEe⟩
      case rest =>
        obtain ⟨hs120, hEv⟩ := hcut
        subst hs120
        go_wp2_with fail
        go_roundw
        case rel => first | exact ⟨i + 1, by go_num, by omega, hide (hE67.out.trans hEv)⟩ | ((repeat apply Exists.intro); exact ⟨⟨i + 1, by go_num, by omega, hide (hE67.out.trans hEv)⟩, rfl⟩)
        case measure => simp [intOf]; omega
    · obtain rfl : i = 2 := by omega
      go_wp2_with fail
      refine (haw.out _).mono ?_
      rintro e w8 ⟨rfl, hE8⟩
      go_wp2_with fail
      go_ret
      exact ⟨rfl, (hE06.trans hE.out).trans hE8⟩
end Go.Proofs.Yticnncgbfpgeaaa

