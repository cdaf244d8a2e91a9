/- Events that came in: opening. -/
import Derived.Test.YtpajpdkliohepaaDoorEvF
import Derived.Test.YtpajpdkliohepaaDoorInR
namespace Go.Proofs.YtpajpdkliohepaaDoor
open Go.ChangeShapes Go.WideShapes Go.Deep Go.RowKit

section
variable {H : Type} {enc : TypeId × Value → H} {w : World} {base : Nat} {spare : Nat → Bool} {held : Bool}
theorem str_list {s : ByteArray} (h : s.size ≤ maxLen) : Value.string s = strV s.data.toList ∧ s.data.toList.length ≤ 9223372036854775807 := by
  refine ⟨(strV_bytes s).symm, ?_⟩
  unfold maxLen at h
  rw [Array.length_toList]
  exact h
set_option maxRecDepth 100000 in
theorem in_fd {fuel : Nat} {cs : List Value} {y : DataW H × List MemPlace} (hcl : cs.length = 2) (h : DataW.trod enc Tryd.prog w base spare held fuel 52 cs = some y) :
    ∃ f : Fd, (f.1.length ≤ 9223372036854775807 ∧ f.2.length ≤ 9223372036854775807) ∧ f.cells = cs := by
  obtain ⟨n, one⟩ := in_fields (tys := #[9, 9]) Tryd.underlying52 (by kernel_rfl) (by kernel_rfl) h
  match cs, hcl with
  | [v0, v1], _ =>
    obtain ⟨z0, h0⟩ := one 0 _ v0 rfl rfl
    obtain ⟨s0, e0, _, w0⟩ := DataW.trod_string Tryd.underlying9 h0
    obtain rfl : v0 = .string s0 := by simpa using e0
    obtain ⟨z1, h1⟩ := one 1 _ v1 rfl rfl
    obtain ⟨s1, e1, _, w1⟩ := DataW.trod_string Tryd.underlying9 h1
    obtain rfl : v1 = .string s1 := by simpa using e1
    refine ⟨(s0.data.toList, s1.data.toList), ⟨(str_list w0).2, (str_list w1).2⟩, ?_⟩
    unfold Fd.cells
    rw [(str_list w0).1, (str_list w1).1]
set_option maxRecDepth 100000 in
theorem in_ev {fuel : Nat} {cs : List Value} {y : DataW H × List MemPlace} (hcl : cs.length = 2) (h : DataW.trod enc Tryd.prog w base spare held fuel 24 cs = some y) :
    ∃ x : EvC, (x.e.Ok w x.A ∧ I64ok' x.e.at_) ∧ x.cells = cs := by
  obtain ⟨n, one⟩ := in_fields (tys := #[3, 22]) Tryd.underlying24 (by kernel_rfl) (by kernel_rfl) h
  match cs, hcl with
  | [v0, v1], _ =>
    obtain ⟨z0, h0⟩ := one 0 _ v0 rfl rfl
    obtain ⟨k0, e0, _, w0⟩ := DataW.trod_int Tryd.underlying3 h0
    obtain rfl : v0 = .int .i64 k0 := by simpa using e0
    obtain ⟨z1, h1⟩ := one 1 _ v1 rfl rfl
    obtain ⟨A, c, fs, rfl, hc, _, _, hl, hfs⟩ := in_row_of (cellsA := Fd.cells) Tryd.underlying22 (by kernel_rfl) (by omega : 0 < 2) (fun _ => rfl) (fun _ _ _ a b => in_fd a b) h1
    exact ⟨⟨⟨k0, fs⟩, A, c⟩, ⟨⟨hc, hl, hfs⟩, wf_i64 w0⟩, rfl⟩
set_option maxRecDepth 100000 in
theorem in_evs {fuel : Nat} {v : Value} {x : DataW H × List MemPlace} (h : DataW.trod enc Tryd.prog w base spare held fuel 25 [v] = some x) :
    ∃ (A : Option Addr) (c : Nat) (l : List EvC), v = .slice A l.length c ∧ EvsOk w A l ∧ l.length ≤ 9223372036854775807 ∧ ∀ x ∈ l, I64ok' x.e.at_ := by
  obtain ⟨A, c, l, rfl, hc, _, _, hl, hx⟩ := in_row_of (cellsA := EvC.cells) Tryd.underlying25 (by kernel_rfl) (by omega : 0 < 2) (fun _ => rfl) (fun _ _ _ a b => in_ev a b) h
  exact ⟨A, c, l, rfl, ⟨hc, fun x hx2 => (hx x hx2).1⟩, hl, fun x hx2 => (hx x hx2).2⟩
end
set_option maxRecDepth 100000 in
theorem maxl_of {W : World} (h : W.ShapedOpen Tryd.prog) : MaxL W :=
  Go.Proofs.cell_of_shapedOpen_int (zero := #[.int .i64 0]) (t := 3) h (of_decide_eq_true (by kernel_rfl)) (by kernel_rfl) rfl (by kernel_rfl) (by kernel_rfl) Tryd.underlying3
end Go.Proofs.YtpajpdkliohepaaDoor
