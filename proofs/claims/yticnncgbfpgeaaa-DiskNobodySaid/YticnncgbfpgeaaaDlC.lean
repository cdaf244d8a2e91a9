/- loggialaw06: Op, short, begins. -/
import Derived.Test.YticnncgbfpgeaaaDlA
import Derived.Test.YticnncgbfpgeaaaDkZ
import Derived.Test.YticnncgbfpgeaaaDrL
import Derived.Test.YticnncgbfpgeaaaDrM
import Derived.Test.YticnncgbfpgeaaaDrJ
import Derived.Test.YticnncgbfpgeaaaDrK
namespace Go.Proofs.Yticnncgbfpgeaaa
open Go.RowKit Go.Maps

/-- An op, and where its rows lie. -/
structure Opr where
  kd : Nat
  name : List UInt8
  nto : List UInt8
  b : List UInt8
  BA : Option Addr
  bc : Nat
  a : Int
  n : Int
  keep : List Int
  KA : Option Addr
  kc : Nat
def Opr.cells (o : Opr) : List Value := [.int .u8 o.kd, str o.name, str o.nto, .slice o.BA o.b.length o.bc, .int .i64 o.a, .int .i64 o.n, .slice o.KA o.keep.length o.kc]
def Opr.val (o : Opr) : Value := .agg #[.int .u8 o.kd, str o.name, str o.nto, .slice o.BA o.b.length o.bc, .int .i64 o.a, .int .i64 o.n, .slice o.KA o.keep.length o.kc]
/-- Its rows lie below base. -/
structure OOk (w : World) (base : Nat) (o : Opr) : Prop where
  kd : o.kd < 256
  name : o.name.length ≤ 9223372036854775807
  nto : o.nto.length ≤ 9223372036854775807
  bytes : Bs w o.BA o.b
  ba : o.b ≠ [] → ∀ x, o.BA = some x → x.block < base ∧ x.spot = none
  bcap : o.b.length ≤ o.bc
  blen : o.b.length ≤ 9223372036854775807
  a : -9223372036854775808 ≤ o.a ∧ o.a ≤ 9223372036854775807
  n : -9223372036854775808 ≤ o.n ∧ o.n ≤ 9223372036854775807
  keep : Cells w o.KA (o.keep.map I64)
  ka : o.keep ≠ [] → ∀ x, o.KA = some x → x.block < base ∧ x.spot = none
  kcap : o.keep.length ≤ o.kc
  klen : o.keep.length ≤ 9223372036854775807
  kb : ∀ k ∈ o.keep, -9223372036854775808 ≤ k ∧ k ≤ 9223372036854775807
def Opr.short (o : Opr) : Opr := { o with name := o.name.take 70, nto := o.nto.take 70, b := o.b.take 100, keep := o.keep.take 10 }
theorem Cells.take {w : World} {A : Option Addr} {xs : List Value} (h : Cells w A xs) (n : Nat) : Cells w A (xs.take n) := by
  rcases h with h | ⟨g, o, hA, hc⟩
  · exact .inl (by rw [h]; simp)
  · refine .inr ⟨g, o, hA, fun i v hv => hc i v ?_⟩
    rw [List.getElem?_take] at hv
    split at hv
    · exact hv
    · cases hv
theorem OOk.short {w : World} {base : Nat} {o : Opr} (h : OOk w base o) : OOk w base o.short ∧ o.short.name.length ≤ 70 ∧ o.short.nto.length ≤ 70 ∧ o.short.b.length ≤ 100 ∧ o.short.keep.length ≤ 10 := by
  have h1 : (o.name.take 70).length ≤ 70 := List.length_take_le _ _
  have h2 : (o.nto.take 70).length ≤ 70 := List.length_take_le _ _
  have h3 : (o.b.take 100).length ≤ 100 := List.length_take_le _ _
  have h4 : (o.keep.take 10).length ≤ 10 := List.length_take_le _ _
  have h5 : (o.b.take 100).length ≤ o.b.length := List.length_take_le' _ _
  have h6 : (o.keep.take 10).length ≤ o.keep.length := List.length_take_le' _ _
  refine ⟨⟨h.kd, ?_, ?_, ?_, fun hne => h.ba fun e => hne (by show o.b.take 100 = []; rw [e]; rfl), Nat.le_trans h5 h.bcap, Nat.le_trans h5 h.blen, h.a, h.n, ?_, fun hne => h.ka fun e => hne (by show o.keep.take 10 = []; rw [e]; rfl), Nat.le_trans h6 h.kcap, Nat.le_trans h6 h.klen, fun k hk => h.kb k (List.mem_of_mem_take hk)⟩, h1, h2, h3, h4⟩
  · show (o.name.take 70).length ≤ _; omega
  · show (o.nto.take 70).length ≤ _; omega
  · show Bs w o.BA (o.b.take 100)
    unfold Bs
    rw [List.map_take]
    exact h.bytes.take 100
  · show Cells w o.KA ((o.keep.take 10).map I64)
    rw [List.map_take]
    exact h.keep.take 10
theorem OOk.bytes_chg {w w1 : World} {base : Nat} {o : Opr} {S : Nat → Prop} (h : OOk w base o) (hc : Chg S w w1) (hs : ∀ k, k < base → ¬ S k) : Bs w1 o.BA o.b := by
  by_cases hbe : o.b = []
  · rw [hbe]; exact .inl rfl
  · exact hc.cells h.bytes fun x hx => hs _ (h.ba hbe x hx).1
theorem OOk.keep_chg {w w1 : World} {base : Nat} {o : Opr} {S : Nat → Prop} (h : OOk w base o) (hc : Chg S w w1) (hs : ∀ k, k < base → ¬ S k) : Cells w1 o.KA (o.keep.map I64) := by
  by_cases hbe : o.keep = []
  · rw [hbe]; exact .inl rfl
  · exact hc.cells h.keep fun x hx => hs _ (h.ka hbe x hx).1
theorem OOk.chg {w w1 : World} {base : Nat} {o : Opr} {S : Nat → Prop} (h : OOk w base o) (hc : Chg S w w1) (hs : ∀ k, k < base → ¬ S k) : OOk w1 base o :=
  ⟨h.kd, h.name, h.nto, h.bytes_chg hc hs, h.ba, h.bcap, h.blen, h.a, h.n, h.keep_chg hc hs, h.ka, h.kcap, h.klen, h.kb⟩
theorem OOk.ext {w w1 : World} {base : Nat} {o : Opr} (h : OOk w base o) (hc : Ext w w1) : OOk w1 base o := h.chg (Chg.of_ext hc (fun _ => False)) fun _ _ h => h
theorem bytes_take (l : List UInt8) (k : Nat) : (⟨l.toArray⟩ : ByteArray).extract 0 k = ⟨(l.take k).toArray⟩ := by
  have : ((⟨l.toArray⟩ : ByteArray).extract 0 k).data = (l.take k).toArray := by
    simp
  generalize (⟨l.toArray⟩ : ByteArray).extract 0 k = x at this
  cases x
  simp only at this
  rw [this]
set_option maxRecDepth 100000 in
theorem run_strhead (l : List UInt8) (k : Nat) (hk : k ≤ l.length) (W : World) : (Instr.sliceAt 9 (.string ⟨l.toArray⟩) none (some (.int .i64 k)) none).run Try.prog W = .ok (.string ⟨(l.take k).toArray⟩) W := by
  rw [run_sliceAt_string W 9 _ _ _ _ Try.underlying9]
  have hsz : (⟨l.toArray⟩ : ByteArray).size = l.length := ByteArray.size_mk_toArray l
  simp only [Instr.slice, Sem.run_bind, run_underlying Try.underlying9, Result.andThen_ok, Instr.sliceBounds, hsz, Option.isSome_none, Bool.false_eq_true, if_false, Sem.run_pure]
  rw [run_sliceBound W .i64 (k : Int) l.length _ (by omega) (by omega)]
  simp only [Result.andThen_ok, Int.toNat_natCast, bytes_take]
set_option maxRecDepth 100000 in
set_option maxHeartbeats 4000000 in
theorem short_any (base : Nat) (o : Opr) (w : World) (h : OOk w base o) :
    Calls Try.prog 12 #[o.val] w fun e w' => e = .returned o.short.val ∧ Ext w w' := by
  have hv : o.short.val = .agg #[.int .u8 o.kd, str (o.name.take 70), str (o.nto.take 70), .slice o.BA (o.b.take 100).length o.bc, .int .i64 o.a, .int .i64 o.n, .slice o.KA (o.keep.take 10).length o.kc] := rfl
  rw [hv]
  unfold Opr.val
  unfold str
  obtain ⟨sn, hsn⟩ : ∃ sn : ByteArray, sn = ⟨o.name.toArray⟩ := ⟨_, rfl⟩
  obtain ⟨s1, hs1⟩ : ∃ sn : ByteArray, sn = ⟨(o.name.take 70).toArray⟩ := ⟨_, rfl⟩
  obtain ⟨tn, htn⟩ : ∃ sn : ByteArray, sn = ⟨o.nto.toArray⟩ := ⟨_, rfl⟩
  obtain ⟨t1, ht1⟩ : ∃ sn : ByteArray, sn = ⟨(o.nto.take 70).toArray⟩ := ⟨_, rfl⟩
  obtain ⟨bl, hbl⟩ : ∃ x, x = o.b.length := ⟨_, rfl⟩
  obtain ⟨b1, hb1⟩ : ∃ x, x = (o.b.take 100).length := ⟨_, rfl⟩
  obtain ⟨kl, hkl⟩ : ∃ x, x = o.keep.length := ⟨_, rfl⟩
  obtain ⟨k1, hk1⟩ : ∃ x, x = (o.keep.take 10).length := ⟨_, rfl⟩
  have c1 : sn.size ≤ 70 ∧ s1 = sn ∨ 70 < sn.size ∧ ∀ W, (Instr.sliceAt 9 (.string sn) none (some (.int .i64 70)) none).run Try.prog W = .ok (.string s1) W := by
    have hz : sn.size = o.name.length := by rw [hsn]; exact ByteArray.size_mk_toArray _
    by_cases hc : o.name.length ≤ 70
    · exact .inl ⟨by omega, by rw [hs1, hsn, List.take_of_length_le hc]⟩
    · exact .inr ⟨by omega, fun W => by rw [hsn, hs1]; exact run_strhead o.name 70 (by omega) W⟩
  have c2 : tn.size ≤ 70 ∧ t1 = tn ∨ 70 < tn.size ∧ ∀ W, (Instr.sliceAt 9 (.string tn) none (some (.int .i64 70)) none).run Try.prog W = .ok (.string t1) W := by
    have hz : tn.size = o.nto.length := by rw [htn]; exact ByteArray.size_mk_toArray _
    by_cases hc : o.nto.length ≤ 70
    · exact .inl ⟨by omega, by rw [ht1, htn, List.take_of_length_le hc]⟩
    · exact .inr ⟨by omega, fun W => by rw [htn, ht1]; exact run_strhead o.nto 70 (by omega) W⟩
  have hbc := h.bcap
  have hkc := h.kcap
  have c3 : bl ≤ 100 ∧ b1 = bl ∨ 100 < bl ∧ b1 = 100 ∧ ∀ W, (Instr.sliceAt 27 (.slice o.BA bl o.bc) none (some (.int .i64 100)) none).run Try.prog W = .ok (.slice o.BA 100 o.bc) W := by
    have hb1' := hbl
    rw [List.length_take] at hb1
    by_cases hc : bl ≤ 100
    · exact .inl ⟨hc, by omega⟩
    · exact .inr ⟨by omega, by omega, run_head (t := 27) (e := 5) (k := 100) Try.underlying27 (fun W => by kernel_rfl) (by omega) fun x hx => (h.ba (fun e => hc (by rw [hb1', e]; simp)) x hx).2⟩
  have c4 : kl ≤ 10 ∧ k1 = kl ∨ 10 < kl ∧ k1 = 10 ∧ ∀ W, (Instr.sliceAt 39 (.slice o.KA kl o.kc) none (some (.int .i64 10)) none).run Try.prog W = .ok (.slice o.KA 10 o.kc) W := by
    have hk1' := hkl
    rw [List.length_take] at hk1
    by_cases hc : kl ≤ 10
    · exact .inl ⟨hc, by omega⟩
    · exact .inr ⟨by omega, by omega, run_head (t := 39) (e := 3) (k := 10) Try.underlying39 (fun W => by kernel_rfl) (by omega) fun x hx => (h.ka (fun e => hc (by rw [hk1', e]; simp)) x hx).2⟩
  rw [← hsn, ← hs1, ← htn, ← ht1, ← hbl, ← hb1, ← hkl, ← hk1]
  have hbl2 := h.blen
  have hkl2 := h.klen
  rw [← hbl] at hbl2
  rw [← hkl] at hkl2
  clear hsn hs1 htn ht1 hbl hb1 hkl hk1 hbc hkc hv h
  rcases c1 with ⟨c1, rfl⟩ | ⟨c1, e1⟩ <;> rcases c2 with ⟨c2, rfl⟩ | ⟨c2, e2⟩ <;> rcases c3 with ⟨c3, rfl⟩ | ⟨c3, rfl, e3⟩ <;> rcases c4 with ⟨c4, rfl⟩ | ⟨c4, rfl, e4⟩
  all_goals
    go_enter Try.func12, Try.ntmps12
    go_wp2_with fail
    exact bodyPost_ret (by simp [results, Try.results12, go_sem]) rfl ⟨rfl, ((Ext.refl w).alloc _).alloc _⟩
end Go.Proofs.Yticnncgbfpgeaaa
