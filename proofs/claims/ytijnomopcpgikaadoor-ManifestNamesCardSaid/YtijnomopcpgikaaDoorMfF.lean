/- loggialaw16: few. -/
import Derived.Test.YtijnomopcpgikaaDoorMfE
namespace Go.Proofs.YtijnomopcpgikaaDoor
open Go.RowKit

set_option maxRecDepth 100000 in
theorem run_head7 {t e n c k : Nat} {A : Option Addr} (ht : Tryd.prog.underlying t = some (.slice e)) (hs : ∀ W : World, (sizeOf e).run Tryd.prog W = .ok 7 W) (h : k ≤ c) (hA : ∀ a, A = some a → a.spot = none) (W : World) :
    (Instr.sliceAt t (.slice A n c) none (some (.int .i64 k)) none).run Tryd.prog W = .ok (.slice A k c) W := by
  have he : Tryd.prog.elem t = e := by unfold Program.elem; rw [ht]
  rw [run_sliceAt_slice W t _ _ _ _ (by rw [ht, he]), run_slice_h W t A n c (by rw [ht, he]) .i64 k (by omega) (by omega), he, hs]
  simp only [Result.andThen_ok]
  congr 1
  unfold sliced
  have : (if c = 0 then A else A.map fun x => x.add (0 * 7)) = A := by
    cases A with
    | none => simp
    | some a =>
      obtain ⟨b, o, sp⟩ := a
      obtain rfl : sp = none := hA _ rfl
      simp [Addr.add_lit]
  rw [this]
  simp

set_option maxRecDepth 100000 in
set_option maxHeartbeats 2000000 in
theorem few_any (base : Nat) (m : Mf) (A : Option Addr) (c : Nat) (w : World) (h : m.Ok w base A c) : Calls Tryd.prog 6 #[m.val A c] w fun e w' => e = .returned (m.few.val A c) ∧ Ext w w' := by
  have hp := h.parts
  have hmost := hp.most
  have hcap := hp.cap
  have hv : m.few.val A c = .agg #[.slice A (m.ps.take 40).length c, .int .i64 m.floor, .int .i64 m.done, .int .i64 m.log, .int .i64 m.next, .int .i64 m.now] := rfl
  rw [hv]
  unfold Mf.val
  by_cases h4 : m.ps.length ≤ 40
  · rw [List.take_of_length_le h4]
    clear hv hp
    go_enter Tryd.func6, Tryd.ntmps6
    go_wp2_with fail
    exact bodyPost_ret (by simp [results, Tryd.results6, go_sem]) rfl ⟨rfl, ((Ext.refl w).alloc _).alloc _⟩
  · have h40 : (m.ps.take 40).length = 40 := by rw [List.length_take]; omega
    rw [h40]
    have hr := run_head7 (t := 22) (e := 40) (k := 40) (n := m.ps.length) (c := c) (A := A) Tryd.underlying22 (fun W => by kernel_rfl) (by omega) fun x hx => (hp.away (fun e => h4 (by rw [e]; simp)) x hx).2
    clear hv hp h40
    go_enter Tryd.func6, Tryd.ntmps6
    go_wp2_with fail
    exact bodyPost_ret (by simp [results, Tryd.results6, go_sem]) rfl ⟨rfl, ((Ext.refl w).alloc _).alloc _⟩
end Go.Proofs.YtijnomopcpgikaaDoor
