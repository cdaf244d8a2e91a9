/- loggia/disk: Rename, Remove. -/
import Derived.Test.YticnncgbfpgeaaaDkU
namespace Go.Proofs.Yticnncgbfpgeaaa
open Go.RowKit Go.Maps

theorem cell_alloc (w : World) (v : Value) (t : TypeId) : (w.alloc (.cells #[v] t)).cell? ⟨w.heap.size, 0, none⟩ = some v := by
  rw [cell_of_row _ _ _ _ _ _ (heap_alloc_new w _)]
  rfl
theorem size_alloc (w : World) (o : Obj) : (w.alloc o).heap.size = w.heap.size + 1 := by simp
set_option maxRecDepth 100000 in
theorem remove_any (base d : Nat) (P : PD) (F : Nat → Prop) (s : List UInt8) (w : World) (h : DS w base d P F) (hs : s.length ≤ 9223372036854775807) :
    Calls Try.prog 19 #[.pointer (some ⟨d, 0, none⟩), str s] w fun e w' => e = .returned (.int .i64 (removeM P s).2) ∧ DNext base d F w (removeM P s).1 w' := by
  have hS := h
  obtain ⟨m, E, hD0, hF⟩ := h
  obtain ⟨W1, hW1⟩ : ∃ W1, W1 = w.alloc (.cells #[.pointer (some ⟨d, 0, none⟩)] 22) := ⟨_, rfl⟩
  obtain ⟨W2, hW2⟩ : ∃ W2, W2 = W1.alloc (.cells #[str s] 9) := ⟨_, rfl⟩
  have hE1 : Ext w W1 := by rw [hW1]; exact (Ext.refl w).alloc _
  have hE2 : Ext W1 W2 := by rw [hW2]; exact (Ext.refl W1).alloc _
  have hs1 : W1.heap.size = w.heap.size + 1 := by rw [hW1]; exact size_alloc _ _
  have c1 : W1.cell? ⟨w.heap.size, 0, none⟩ = some (.pointer (some ⟨d, 0, none⟩)) := by rw [hW1]; exact cell_alloc _ _ _
  have c2 : W2.cell? ⟨w.heap.size + 1, 0, none⟩ = some (str s) := by rw [hW2, ← hs1]; exact cell_alloc _ _ _
  have c1' := hE2.cell c1
  have hD : DE W2 base d m P E := hD0.chg (Chg.of_ext (hE1.trans hE2) (fun _ => False)) (fun _ h => h.elim)
  have hnf : ∀ k, w.heap.size ≤ k → ¬ Foot d m E k := fun k hk hf => by have := hD0.lt hf; omega
  have hw := writes_any base d m W2.heap.size P E s [] 44 #[.pointer (some ⟨w.heap.size, 0, none⟩), .pointer (some ⟨w.heap.size + 1, 0, none⟩)] (fun _ => withoutG fname s P.L) none 0 0 W2 hD hs (by simp) rfl (by omega) (Nat.le_refl _) (World.ownsRow_nil _ _ _ _) nofun (fun args W => by kernel_rfl)
    (fun w1 e0 he hn hc hD1 => remove1_any base d m _ _ P E s w1 hD1 hs _ (hc.cell c1' fun hk => hnf _ (Nat.le_refl _) (ws_nil hk)) (hc.cell c2 fun hk => hnf _ (Nat.le_succ _) (ws_nil hk)))
  have hsy : removeM P s = writesM P ([] ++ [s]) s (fun _ => withoutG fname s P.L) := rfl
  rw [← hsy] at hw
  have hE := hE1.trans hE2
  rw [hW2, hW1] at hw hE
  unfold str at hw hE ⊢
  replace hw := hide hw
  clear hsy hW1 hW2 c1' c1 c2 hs1 hD hE1 hE2
  go_enter Try.func19, Try.ntmps19
  go_wp2_with fail
  refine hw.out.mono ?_
  rintro e w1 ⟨rfl, h1⟩
  go_wp2_with fail
  go_ret
  exact ⟨rfl, (h1.mono fun i _ hi => ws_nil hi).next hS hF hE⟩
set_option maxRecDepth 100000 in
theorem rename_any (base d : Nat) (P : PD) (F : Nat → Prop) (s t : List UInt8) (w : World) (h : DS w base d P F) (hs : s.length ≤ 9223372036854775807) (ht : t.length ≤ 9223372036854775807) :
    Calls Try.prog 18 #[.pointer (some ⟨d, 0, none⟩), str s, str t] w fun e w' => e = .returned (.int .i64 (renameM P s t).2) ∧ DNext base d F w (renameM P s t).1 w' := by
  have hS := h
  obtain ⟨m, E, hD0, hF⟩ := h
  obtain ⟨W1, hW1⟩ : ∃ W1, W1 = w.alloc (.cells #[.pointer (some ⟨d, 0, none⟩)] 22) := ⟨_, rfl⟩
  obtain ⟨W2, hW2⟩ : ∃ W2, W2 = W1.alloc (.cells #[str s] 9) := ⟨_, rfl⟩
  obtain ⟨W3, hW3⟩ : ∃ W3, W3 = W2.alloc (.cells #[str t] 9) := ⟨_, rfl⟩
  obtain ⟨W4, hW4⟩ : ∃ W4, W4 = W3.alloc (.cells #[str t] 9) := ⟨_, rfl⟩
  have hE1 : Ext w W1 := by rw [hW1]; exact (Ext.refl w).alloc _
  have hE2 : Ext W1 W2 := by rw [hW2]; exact (Ext.refl W1).alloc _
  have hE3 : Ext W2 W3 := by rw [hW3]; exact (Ext.refl W2).alloc _
  have hE4 : Ext W3 W4 := by rw [hW4]; exact (Ext.refl W3).alloc _
  have hs1 : W1.heap.size = w.heap.size + 1 := by rw [hW1]; exact size_alloc _ _
  have hs2 : W2.heap.size = w.heap.size + 2 := by rw [hW2, size_alloc, hs1]
  have hs3 : W3.heap.size = w.heap.size + 3 := by rw [hW3, size_alloc, hs2]
  have hs4 : W4.heap.size = w.heap.size + 4 := by rw [hW4, size_alloc, hs3]
  have c1 : W1.cell? ⟨w.heap.size, 0, none⟩ = some (.pointer (some ⟨d, 0, none⟩)) := by rw [hW1]; exact cell_alloc _ _ _
  have c2 : W2.cell? ⟨w.heap.size + 1, 0, none⟩ = some (str s) := by rw [hW2, ← hs1]; exact cell_alloc _ _ _
  have c3 : W3.cell? ⟨w.heap.size + 2, 0, none⟩ = some (str t) := by rw [hW3, ← hs2]; exact cell_alloc _ _ _
  have c1' := hE4.cell (hE3.cell (hE2.cell c1))
  have c2' := hE4.cell (hE3.cell c2)
  have c3' := hE4.cell c3
  have hE := ((hE1.trans hE2).trans hE3).trans hE4
  have hD : DE W4 base d m P E := hD0.chg (Chg.of_ext hE (fun _ => False)) (fun _ h => h.elim)
  have hnf : ∀ k, w.heap.size ≤ k → k ≠ w.heap.size + 3 → ¬ WS d m E (some ⟨w.heap.size + 3, 0, none⟩) k := by
    rintro k hk hk3 (hf | ⟨a, ha, hf⟩)
    · have := hD0.lt hf; omega
    · cases ha; exact hk3 hf.symm
  have hml : m < w.heap.size := hD0.lt (.inr (.inl rfl))
  have hown : W4.ownsRow (w.heap.size + 3) 9 1 (.slice (some ⟨w.heap.size + 3, 0, none⟩) 1 1) 1 ([t].map str) := by
    refine ⟨rfl, .inr ⟨w.heap.size + 3, 1, #[str t], rfl, Nat.le_refl _, ?_, Nat.le_refl _, by unfold maxLen; omega, rfl, rfl⟩⟩
    rw [hW4, ← hs3]
    exact heap_alloc_new W3 _
  have hw := writes_any base d m (w.heap.size + 3) P E s [t] 43 #[.pointer (some ⟨w.heap.size, 0, none⟩), .pointer (some ⟨w.heap.size + 1, 0, none⟩), .pointer (some ⟨w.heap.size + 2, 0, none⟩)] (fun f => withG fname (t, f.2.1, f.2.2) (withoutG fname s P.L)) (some ⟨w.heap.size + 3, 0, none⟩) 1 1 W4 hD hs (by simpa using ht) rfl (by omega) (by omega) hown
    (by rintro a ha hf; cases ha; have := hD0.lt hf; have : w.heap.size + 3 < w.heap.size := this; omega) (fun args W => by kernel_rfl)
    (fun w1 e0 he hn hc hD1 => rename1_any base d m _ _ _ P E s t e0 w1 hD1 he hn hs ht (hc.cell c1' (hnf w.heap.size (by omega) (by omega))) (hc.cell c2' (hnf (w.heap.size + 1) (by omega) (by omega))) (hc.cell c3' (hnf (w.heap.size + 2) (by omega) (by omega))) ⟨by omega, by omega, by omega⟩)
  have hsy : renameM P s t = writesM P ([t] ++ [s]) s (fun f => withG fname (t, f.2.1, f.2.2) (withoutG fname s P.L)) := rfl
  rw [← hsy] at hw
  have fin : ∀ w1, WPost (WS d m E (some ⟨w.heap.size + 3, 0, none⟩)) base d m E (renameM P s t).1 W4 w1 → DNext base d F w (renameM P s t).1 w1 := by
    rintro w1 ⟨E', h1, h2, h3⟩
    refine hS.next hF h1 ((Chg.of_ext hE (Foot d m E)).trans h2 ?_) fun k hk => (h3 k hk).imp_right fun h => Nat.le_trans hE.size h
    rintro i hi (hf | ⟨a, ha, hf⟩)
    · exact hf
    · cases ha
      have : w.heap.size + 3 = i := hf
      omega
  rw [hW4, hW3, hW2, hW1] at hw fin
  unfold str at hw fin ⊢
  replace hw := hide hw
  replace fin := hide fin
  clear hsy hW1 hW2 hW3 hW4 c1' c1 c2 c2' c3 c3' hs1 hs2 hs3 hs4 hD hE1 hE2 hE3 hE4 hE hown hnf
  go_enter Try.func18, Try.ntmps18
  go_wp2_with fail
  refine hw.out.mono ?_
  rintro e w1 ⟨rfl, h1⟩
  replace h1 := fin.out w1 h1
  go_wp2_with fail
  go_ret
  exact ⟨rfl, h1⟩
end Go.Proofs.Yticnncgbfpgeaaa
