/- loggialaw05: awake. -/
import Derived.Test.YteofooecfedplaaLzZ
namespace Go.Proofs.Yteofooecfedplaa
open Go.RowKit

theorem own_lt {w : World} {base : Nat} {e : TypeId} {size n c : Nat} {A : Option Addr} {xs : List Value} (h : w.ownsRow base e size (.slice A n c) n xs) : ∀ a, A = some a → a.block < w.heap.size := by
  rintro a rfl
  rcases h.2 with ⟨hv, _⟩ | ⟨g, cap, cur, hv, hb, hg, _⟩
  · cases hv
  · cases hv
    exact (Array.getElem?_eq_some_iff.1 hg).1
/-- Bytes that were just laid. -/
theorem laid_bytes (w : World) (l : List UInt8) (t : TypeId) : Bs (w.alloc (.cells (l.map B8).toArray t)) (some ⟨w.heap.size, 0, none⟩) l :=
  .inr ⟨w.heap.size, 0, rfl, fun i v hv => by
    rw [Nat.zero_add, cell_of_row _ _ _ _ _ _ (heap_alloc_new w _)]
    simpa using hv⟩
theorem laid_lt (w : World) (o : Obj) : ∀ a : Addr, some (⟨w.heap.size, 0, none⟩ : Addr) = some a → a.block < (w.alloc o).heap.size := by
  rintro a h
  cases h
  simp
theorem pack_len (A : Option Addr) (c n : Nat) (l : List UInt8) (w : World) (hn : n = l.length) (hl : Bs w A l) (hA : ∀ a, A = some a → a.block < w.heap.size) (hle : n ≤ 1048576) (hc : n ≤ c) :
    Calls Try.prog 8 #[.slice A n c] w fun e w' => ∃ A1 n1 c1, e = .returned (.tuple #[.slice A1 n1 c1, .int .i64 0]) ∧ n1 = (packM l).length ∧ n1 ≤ c1 ∧ Bs w' A1 (packM l) ∧ (∀ a, A1 = some a → a.block < w'.heap.size) ∧ Ext w w' := by
  subst hn
  refine (pack_any A c l w hl hA hle hc).mono ?_
  rintro e w' ⟨A1, n1, c1, rfl, hn1, ho, hE⟩
  subst hn1
  refine ⟨A1, _, c1, rfl, rfl, ?_, Cells.of_own ho, own_lt ho, hE⟩
  rcases ho.2 with ⟨hv, h0⟩ | ⟨g, cap, cur, hv, hb, hg, hnc, _⟩
  · injection hv with _ h1 h2
    omega
  · injection hv with _ _ h2
    omega
theorem modify_push {α : Type} (h : Array α) (x : α) (f : α → α) : (h.push x).modify h.size f = h.push (f x) := by
  apply Array.ext
  · simp
  · intro i h1 h2
    simp only [Array.getElem_modify, Array.getElem_push]
    simp only [Array.size_push] at h2
    split
    · rename_i he
      subst he
      rw [dif_neg (by omega), dif_neg (by omega)]
    · rename_i he
      rw [dif_pos (by omega), dif_pos (by omega)]
theorem freeze_new (w : World) (cs : Array Value) (t : TypeId) (n : Nat) : (w.alloc (.cells cs t)).freeze ⟨w.heap.size, n, none⟩ 1 = w.alloc (.cells cs t (n, n + 1)) := by
  unfold World.freeze World.alloc
  rw [if_neg (by omega)]
  simp only [modify_push]
  rfl
theorem run_same (w : World) (cs : Array Value) (n c : Nat) : (convert 22 22 (.slice (some ⟨w.heap.size, 0, none⟩) n c)).run Try.prog (w.alloc (.cells cs 5)) = .ok (.slice (some ⟨w.heap.size, 0, none⟩) n c) (w.alloc (.cells cs 5 (cs.size, cs.size + 1))) := by
  have hs : (w.alloc (.cells cs 5)).shape? w.heap.size = some (5, cs.size) := by
    unfold World.shape?
    rw [heap_alloc_new w _]
  unfold convert
  simp only [Sem.run_bind, run_underlying Try.underlying22, Result.andThen_ok]
  show Sem.run _ (do
      let __do_lift ← underlying 5
      match (22 : TypeId) == 22, __do_lift with
        | true, TypeDesc.int IntKind.u8 => do
          markStringish ⟨w.heap.size, 0, none⟩
          pure (Value.slice (some ⟨w.heap.size, 0, none⟩) n c)
        | x, x_1 => unsupported (Unsupported.noEntry "convert/other")) _ = _
  simp only [Sem.run_bind, run_underlying Try.underlying5, Result.andThen_ok]
  show Sem.run _ (do
          markStringish ⟨w.heap.size, 0, none⟩
          pure (Value.slice (some ⟨w.heap.size, 0, none⟩) n c)) _ = _
  unfold markStringish
  simp only [Sem.run_bind, run_shape, Result.andThen_ok, hs, run_freeze, freeze_new, Sem.run_pure]
/-- Bytes that were laid and marked. -/
theorem marked_bytes (w : World) (l : List UInt8) (t : TypeId) (f : Nat × Nat) : Bs (w.alloc (.cells (l.map B8).toArray t f)) (some ⟨w.heap.size, 0, none⟩) l :=
  .inr ⟨w.heap.size, 0, rfl, fun i v hv => by
    rw [Nat.zero_add, cell_of_row _ _ _ _ _ _ (heap_alloc_new w _)]
    simpa using hv⟩
set_option maxRecDepth 100000 in
set_option maxHeartbeats 2000000 in
theorem awake_any (w : World) : Calls Try.prog 12 #[] w fun e w' => e = .returned (.bool true) ∧ Ext w w' := by
  have hsame := run_same w #[.int .u8 97, .int .u8 98, .int .u8 97, .int .u8 98, .int .u8 97, .int .u8 98, .int .u8 97, .int .u8 98, .int .u8 97, .int .u8 98, .int .u8 88] 11 11
  go_enter Try.func12, Try.ntmps12
  go_wp2_with fail
  obtain ⟨W, hW⟩ : ∃ W, W = w.alloc (.cells #[.int .u8 97, .int .u8 98, .int .u8 97, .int .u8 98, .int .u8 97, .int .u8 98, .int .u8 97, .int .u8 98, .int .u8 97, .int .u8 98, .int .u8 88] 5 (11, 12)) := ⟨_, rfl⟩
  rw [← hW]
  have hE0 : Ext w W := by rw [hW]; exact (Ext.refl w).alloc _
  refine (pack_len (some ⟨w.heap.size, 0, none⟩) 11 11 [97, 98, 97, 98, 97, 98, 97, 98, 97, 98, 88] W rfl (by rw [hW]; exact marked_bytes w _ _ _) (by rw [hW]; exact laid_lt w _) (by omega) (by omega)).mono ?_
  rintro e w1 ⟨A1, n1, c1, rfl, hn1, hc1, hb1, hlt1, hE1⟩
  rw [pack_eg] at hn1 hb1
  obtain rfl : n1 = 12 := hn1
  go_wp2_with fail
  refine (unpack_any A1 c1 12 _ w1 rfl hb1 hlt1 (by omega) hc1).mono ?_
  rintro e w2 ⟨A2, n2, c2, rfl, hn2, hb2, hE2⟩
  rw [up_eg] at hn2 hb2 ⊢
  obtain rfl : n2 = 11 := hn2
  simp only [] at hb2 ⊢
  go_wp2_with fail
  obtain ⟨V, hV⟩ : ∃ V, V = w2.alloc (.cells #[.int .u8 0, .int .u8 0, .int .u8 0, .int .u8 1, .int .u8 128, .int .u8 0, .int .u8 1] 5) := ⟨_, rfl⟩
  rw [← hV]
  have hEV : Ext w2 V := by rw [hV]; exact (Ext.refl w2).alloc _
  refine (unpack_any (some ⟨w2.heap.size, 0, none⟩) 7 7 [0, 0, 0, 1, 128, 0, 1] V rfl (by rw [hV]; exact laid_bytes w2 _ _) (by rw [hV]; exact laid_lt w2 _) (by omega) (by omega)).mono ?_
  rintro e w3 ⟨A3, n3, c3, rfl, hn3, hb3, hE3⟩
  rw [up_no] at hn3 hb3 ⊢
  have s1 := run_str (((hb1.ext hE2).ext hEV).ext hE3) 12 c1 rfl
  have s2 := run_str ((hb2.ext hEV).ext hE3) 11 c2 rfl
  have hbd := bound_any 0 w3 (by omega) (by omega)
  replace hbd := hide hbd
  replace hW := hide hW
  replace hV := hide hV
  go_wp2_with fail
  refine hbd.out.mono ?_
  rintro e w4 ⟨rfl, rfl⟩
  rw [show boundM 0 = 4 by decide]
  go_wp2_with fail
  go_ret
  exact ⟨rfl, hE0.trans (hE1.trans (hE2.trans (hEV.trans hE3)))⟩
end Go.Proofs.Yteofooecfedplaa
