/- Strings as lists of bytes: a head, a tail, a byte. -/
import Derived.Test.YtpajpdkliohepaaDoorRows
import Derived.Test.YtpajpdkliohepaaDoorLib
namespace Go.Proofs.YtpajpdkliohepaaDoor
open Go.RowKit

theorem bytes_take (l : List UInt8) (k : Nat) : (⟨l.toArray⟩ : ByteArray).extract 0 k = ⟨(l.take k).toArray⟩ := by
  have : ((⟨l.toArray⟩ : ByteArray).extract 0 k).data = (l.take k).toArray := by
    simp
  generalize (⟨l.toArray⟩ : ByteArray).extract 0 k = x at this
  cases x
  simp only at this
  rw [this]
set_option maxRecDepth 100000 in
theorem run_strhead (l : List UInt8) (k : Nat) (hk : k ≤ l.length) (W : World) : (Instr.sliceAt 9 (.string ⟨l.toArray⟩) none (some (.int .i64 k)) none).run Tryd.prog W = .ok (.string ⟨(l.take k).toArray⟩) W := by
  rw [run_sliceAt_string W 9 _ _ _ _ Tryd.underlying9]
  have hsz : (⟨l.toArray⟩ : ByteArray).size = l.length := ByteArray.size_mk_toArray l
  simp only [Instr.slice, Sem.run_bind, run_underlying Tryd.underlying9, Result.andThen_ok, Instr.sliceBounds, hsz, Option.isSome_none, Bool.false_eq_true, if_false, Sem.run_pure]
  rw [run_sliceBound W .i64 (k : Int) l.length _ (by omega) (by omega)]
  simp only [Result.andThen_ok, Int.toNat_natCast, bytes_take]
theorem run_strheadz {l : List UInt8} {k : Nat} (hk : k ≤ l.length) {z : Int} (hz : z = (k : Int)) (W : World) : (Instr.sliceAt 9 (.string ⟨l.toArray⟩) none (some (.int .i64 z)) none).run Tryd.prog W = .ok (.string ⟨(l.take k).toArray⟩) W := by
  subst hz
  exact run_strhead l k hk W
set_option maxRecDepth 100000 in
theorem run_strindex {l : List UInt8} {i : Nat} {b : UInt8} (h : l[i]? = some b) {z : Int} (hz : z = (i : Int)) (W : World) : (Instr.index 9 (.string ⟨l.toArray⟩) (.int .i64 z)).run Tryd.prog W = .ok (.int .u8 (b.toNat : Int)) W := by
  subst hz
  have hi := (List.getElem?_eq_some_iff.1 h).1
  have h2 := (List.getElem?_eq_some_iff.1 h).2
  have hsz : (⟨l.toArray⟩ : ByteArray).size = l.length := ByteArray.size_mk_toArray l
  rw [run_index_string W 9 _ .i64 (i : Int) Tryd.underlying9, dif_pos ⟨by omega, by rw [hsz]; omega⟩]
  have : ((⟨l.toArray⟩ : ByteArray)[(i : Int).toNat]'(by rw [hsz]; omega)) = b := by
    rw [← h2]
    simp only [Int.toNat_natCast]
    rfl
  rw [this]
set_option maxRecDepth 100000 in
theorem run_strindexk {l : List UInt8} {k : IntKind} {i : Nat} {b : UInt8} (h : l[i]? = some b) {z : Int} (hz : z = (i : Int)) (W : World) : (Instr.index 9 (.string ⟨l.toArray⟩) (.int k z)).run Tryd.prog W = .ok (.int .u8 (b.toNat : Int)) W := by
  subst hz
  have hi := (List.getElem?_eq_some_iff.1 h).1
  have h2 := (List.getElem?_eq_some_iff.1 h).2
  have hsz : (⟨l.toArray⟩ : ByteArray).size = l.length := ByteArray.size_mk_toArray l
  rw [run_index_string W 9 _ k (i : Int) Tryd.underlying9, dif_pos ⟨by omega, by rw [hsz]; omega⟩]
  have : ((⟨l.toArray⟩ : ByteArray)[(i : Int).toNat]'(by rw [hsz]; omega)) = b := by
    rw [← h2]
    simp only [Int.toNat_natCast]
    rfl
  rw [this]
theorem bytes_drop (l : List UInt8) (k : Nat) : (⟨l.toArray⟩ : ByteArray).extract k l.length = ⟨(l.drop k).toArray⟩ := by
  have : ((⟨l.toArray⟩ : ByteArray).extract k l.length).data = (l.drop k).toArray := by
    simp
    exact List.take_of_length_le (by rw [List.length_drop]; exact Nat.le_refl _)
  generalize (⟨l.toArray⟩ : ByteArray).extract k l.length = x at this
  cases x
  simp only at this
  rw [this]
set_option maxRecDepth 100000 in
theorem run_strtail (l : List UInt8) (k : Nat) (hk : k ≤ l.length) {z : Int} (hz : z = (k : Int)) (W : World) : (Instr.sliceAt 9 (.string ⟨l.toArray⟩) (some (.int .i64 z)) none none).run Tryd.prog W = .ok (.string ⟨(l.drop k).toArray⟩) W := by
  subst hz
  rw [run_sliceAt_string W 9 _ _ _ _ Tryd.underlying9]
  have hsz : (⟨l.toArray⟩ : ByteArray).size = l.length := ByteArray.size_mk_toArray l
  simp only [Instr.slice, Sem.run_bind, run_underlying Tryd.underlying9, Result.andThen_ok, Instr.sliceBounds, hsz, Option.isSome_none, Bool.false_eq_true, if_false, Sem.run_pure]
  rw [run_sliceBound W .i64 (k : Int) l.length _ (by omega) (by omega)]
  simp only [Result.andThen_ok, Int.toNat_natCast, bytes_drop]
end Go.Proofs.YtpajpdkliohepaaDoor
