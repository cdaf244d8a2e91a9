/- Stores, copies, appends. -/
import Derived.Test.YtpfmjagbjdkdcaaGreatDoorAmM
set_option linter.unusedSimpArgs false
set_option linter.unusedVariables false
namespace Go.Proofs.YtpfmjagbjdkdcaaGreatDoor.Am
open Go.Proofs.YtpfmjagbjdkdcaaGreatDoor Go.RowKit

section
variable {P : Program} {base gm : Nat} {f : Ren} {A : AS} {w : World}
theorem eStore_ok (hW : WR base gm f A w) {t : TypeId} {x x' v v' u : Value} (hx : VR f x x') (hv : VR f v v') {A' : AS} (h : eStore P gm t x v A = some (u, A')) :
    ∃ w', (Instr.storeAt t x' v').run P w = .ok () w' ∧ Step base gm f A w f A' w' ∧ u = undef := by
  unfold eStore at h
  split at h
  · rename_i a i hi
    split at h
    · rename_i hlen
      have hlen := beq_t hlen
      split at h
      · rename_i A2 hs
        cases h
        obtain ⟨a', rfl, ha⟩ := hx.ptr_inv
        obtain ⟨w', hr, hS, _⟩ := stC_ok (P := P) hW ha (VR.cells hv) hs
        refine ⟨w', ?_, hS, rfl⟩
        have hc : ¬ v'.cells.size ≠ i.size := by
          have := (VR.cells hv).1
          rw [hlen] at this
          simp at this
          omega
        simp only [Instr.storeAt, Instr.sureAddr, Sem.run_bind, Sem.run_pure, Result.andThen_ok, storeVar, run_sizeOf' hi, if_neg hc]
        exact hr
      · cases h
    · cases h
  · cases h
theorem lenA_ok {x x' : Value} {m : Nat} (hx : VR f x x') (h : lenA x = some m) (w : World) : (Builtin.lenOf x').run P w = .ok m w := by
  unfold lenA at h
  split at h <;> cases h <;> cases hx <;> rfl
theorem srcC_ok (hW : WR base gm f A w) {size n : Nat} {x x' : Value} (hx : VR f x x') {cs : List Value} (h : srcC A.h size n x = some cs) :
    ∃ cs', (Builtin.firstCells size n x').run P w = .ok cs'.toArray w ∧ LR f cs cs' := by
  unfold srcC at h
  split at h
  · rename_i a m c
    obtain ⟨a', c', rfl, ha, _⟩ := hx.slice_inv
    split at h
    · rename_i h0
      have h0 := beq_t h0
      cases h
      subst h0
      exact ⟨[], by simp [Builtin.firstCells, loadCells, loadCellsFrom], .nil f⟩
    · rename_i h0 h1
      have h0 := beq_f h0
      have h1 := Nat.le_of_ble_eq_true h1
      obtain ⟨vs', hr, hl, _⟩ := cellsN_ok (P := P) hW (ha (by omega)) h
      exact ⟨vs', hr, hl⟩
    · cases h
  · cases h
    cases hx
    exact ⟨[], by simp [Builtin.firstCells], .nil f⟩
  · rename_i s
    cases h
    cases hx
    refine ⟨_, ?_, LR.map _ _ _ fun b _ => .int _ _⟩
    simp only [Builtin.firstCells, Sem.run_pure]
    congr 1
    apply Array.ext'
    have e : (s.extract 0 n).data.toList = s.data.toList.take n := by
      rw [ByteArray.data_extract, Array.toList_extract, List.extract_eq_take_drop]
      simp
    rw [Array.toList_map, e]
  · cases h
theorem zerosL_len (z : List Value) (n : Nat) : (zerosL z n).length = n := by simp [zerosL]
/-- What is appended: how many, and their cells, by the program's own words. -/
inductive NewR (P : Program) (w : World) (e t1 : TypeId) (i : TypeInfo) (x' : Value) (m : Nat) (cs' : List Value) : Prop
  | ints {k k2 z} (hu : P.underlying t1 = some (.int k)) (hx : x' = .int k2 (.ofNat m)) (h1 : m ≤ 16777216) (hz : ∀ w, (zeroValue e).run P w = .ok z w) (hs : z.cells.size = i.size) (hc : cs' = (Builtin.zeroCells z.cells m).toList)
  | els {d} (hu : P.underlying t1 = some d) (hd : ∀ k, d ≠ .int k) (hl : (Builtin.lenOf x').run P w = .ok m w) (hf : (Builtin.firstCells i.size m x').run P w = .ok cs'.toArray w)
theorem newC_ok (hW : WR base gm f A w) {e t1 : TypeId} {i : TypeInfo} {x x' : Value} (hx : VR f x x') {m : Nat} {cs : List Value} (h : newC P A.h e t1 i.size x = some (m, cs)) :
    ∃ cs', LR f cs cs' ∧ NewR P w e t1 i x' m cs' := by
  unfold newC at h
  split at h
  · rename_i hz
    split at h
    · rename_i k m2 z hze
      split at h
      · rename_i h1 h2
        have h1 := Nat.le_of_ble_eq_true h1
        have h2 := beq_t h2
        cases h
        obtain ⟨hz1, hz2⟩ := zeroA_ok hze
        obtain rfl := hx.int_inv
        have hu : ∃ k, P.underlying t1 = some (.int k) := by
          unfold isIntT at hz
          split at hz
          · exact ⟨_, by assumption⟩
          · cases hz
          · cases hz
        obtain ⟨k2, hu⟩ := hu
        have hsz : z.cells.size = i.size := by rw [← h2]; simp
        refine ⟨(Builtin.zeroCells z.cells m).toList, ?_, .ints hu rfl h1 hz1 hsz rfl⟩
        rw [← hsz]
        exact zerosL_ok hz2 _
      · cases h
    · cases h
  · rename_i hz
    split at h
    · rename_i m2 hm
      split at h
      · rename_i cs2 hc
        cases h
        obtain ⟨cs', hr, hl⟩ := srcC_ok (P := P) hW hx hc
        have hu : ∃ d, P.underlying t1 = some d ∧ ∀ k, d ≠ .int k := by
          unfold isIntT at hz
          split at hz
          · cases hz
          · rename_i d hd hu
            exact ⟨d, hu, fun k e => hd k (by first | exact e | exact (e ▸ hu))⟩
          · cases hz
        obtain ⟨d, hu, hd⟩ := hu
        exact ⟨cs', hl, .els hu hd (lenA_ok (P := P) hx hm w) hr⟩
      · cases h
    · cases h
  · cases h
theorem zc_run {z : Value} {m sz : Nat} {e : TypeId} (hz : ∀ w, (zeroValue e).run P w = .ok z w) (hs : z.cells.size = sz) (w : World) :
    (if m * sz = 0 then pure #[] else do pure (Builtin.zeroCells (← zeroValue e).cells m) : Sem (Array Value)).run P w = .ok (Builtin.zeroCells z.cells m) w := by
  by_cases h : m * sz = 0
  · rw [if_pos h]
    have : Builtin.zeroCells z.cells m = #[] := by unfold Builtin.zeroCells; rw [hs, h]; simp
    rw [this]
    rfl
  · rw [if_neg h]
    simp [hz]
theorem append_in {t0 t1 e ty : TypeId} {ts : Array TypeId} {i : TypeInfo} (h0 : ts[0]? = some t0) (h1 : ts[1]? = some t1) (hu0 : P.underlying t0 = some (.slice e)) (hi : P.info? e = some i) (hb : i.bytes ≤ 65536)
    {b : Option Addr} {n c' m : Nat} {x' : Value} {cs' : List Value} (hN : NewR P w e t1 i x' m cs') (hle : n + m ≤ c') :
    (Builtin.append_ ts ty #[.slice b n c', x']).run P w = ((match b with | some a => storeCells (a.add (n * i.size)) cs' | none => pure () : Sem Unit).run P w).andThen fun _ w' => .ok (.slice b (n + m) c') w' := by
  cases hN with
  | ints hu hx hm hz hs hc =>
    subst hx hc
    have e1 : IntKind.i64.wrap (Int.ofNat m) = (m : Int) := wrap_small hm
    have hbig : ¬ ((m : Int) * (i.bytes : Int) > 2 ^ 48) := by
      have : m * i.bytes ≤ 16777216 * 65536 := Nat.mul_le_mul hm hb
      have h4 : ((m * i.bytes : Nat) : Int) ≤ ((16777216 * 65536 : Nat) : Int) := Int.ofNat_le.2 this
      rw [Int.natCast_mul] at h4
      exact Int.not_lt.2 (Int.le_trans h4 (by decide))
    have hneg : ¬ ((m : Int) < 0) := by omega
    unfold Builtin.append_
    simp only [h0, h1, List.getElem?_toArray, List.getElem?_cons_zero, List.getElem?_cons_succ, Sem.run_bind, run_underlying hu0, Result.andThen_ok, run_sizeOf' hi, run_underlying hu, Sem.run_pure, if_true, asInt, asIntOf, e1, if_neg hneg, run_typeInfo' hi, if_neg hbig, Int.toNat_natCast, if_pos hle, Bool.not_true, Bool.false_eq_true, if_false]
    have hA : (if m * i.size = 0 then pure #[] else do pure (Builtin.zeroCells (← zeroValue e).cells m) : Sem (Array Value)).run P w = .ok (Builtin.zeroCells _ m) w := zc_run hz hs w
    rw [hA]
    cases b <;> simp
  | els hu hd hl hf =>
    rename_i d
    unfold Builtin.append_
    have hm : (match d with | .int _ => true | _ => false) = false := by cases d <;> first | rfl | exact (hd _ rfl).elim
    simp only [h0, h1, List.getElem?_toArray, List.getElem?_cons_zero, List.getElem?_cons_succ, Sem.run_bind, run_underlying hu0, Result.andThen_ok, run_sizeOf' hi, run_underlying hu, Sem.run_pure, hm, Bool.false_eq_true, if_false, hl, if_pos hle, Bool.not_false, if_true, hf]
    cases b <;> simp
theorem growBy_le : ∀ (k c n : Nat), Builtin.growBy n k c ≤ 2 ^ k * (c + 768)
  | 0, c, n => by simp [Builtin.growBy]
  | k + 1, c, n => by
    unfold Builtin.growBy
    have h2 : 2 ^ (k + 1) = 2 * 2 ^ k := by rw [Nat.pow_succ]; omega
    have h1 : 1 ≤ 2 ^ k := Nat.one_le_two_pow
    split
    · rw [h2]
      have : 1 * (c + 768) ≤ 2 * 2 ^ k * (c + 768) := Nat.mul_le_mul_right _ (by omega)
      omega
    · refine Nat.le_trans (growBy_le k _ n) ?_
      rw [h2, Nat.mul_comm 2, Nat.mul_assoc]
      exact Nat.mul_le_mul_left _ (by omega)
theorem cap_le {n c b : Nat} (h1 : n ≤ 16777216) (h2 : c < n) (hb : b ≤ 65536) : ¬ Builtin.nextslicecap n c * b > 2 ^ 48 := by
  have h : Builtin.nextslicecap n c ≤ 4294967296 := by
    unfold Builtin.nextslicecap
    split
    · omega
    · split
      · omega
      · refine Nat.le_trans (growBy_le 4 c n) ?_
        have h16 : (2 : Nat) ^ 4 = 16 := rfl
        rw [h16]
        omega
  exact Nat.not_lt.2 (Nat.le_trans (Nat.mul_le_mul h hb) (by decide))
theorem append_out {t0 t1 e ty : TypeId} {ts : Array TypeId} {i : TypeInfo} (h0 : ts[0]? = some t0) (h1 : ts[1]? = some t1) (hu0 : P.underlying t0 = some (.slice e)) (hi : P.info? e = some i) (hb : i.bytes ≤ 65536)
    {b : Option Addr} {n c' m : Nat} {x' z : Value} {cs1 cs' old' : List Value} (hN : NewR P w e t1 i x' m cs1) (hN2 : NewR P { w with drawn := w.drawn + 1 } e t1 i x' m cs')
    (hold : (Builtin.firstCells i.size n (.slice b n c')).run P { w with drawn := w.drawn + 1 } = .ok old'.toArray { w with drawn := w.drawn + 1 }) (hz : ∀ w, (zeroValue e).run P w = .ok z w) (hgt : c' < n + m) (hsm : n + m ≤ 16777216) :
    ∃ k, n + m ≤ k ∧ (Builtin.append_ ts ty #[.slice b n c', x']).run P w = .ok (.slice (some ⟨w.heap.size, 0, none⟩) (n + m) k)
      { w with drawn := w.drawn + 1, heap := w.heap.push (.cells (old'.toArray ++ cs'.toArray ++ Builtin.zeroCells z.cells (k - (n + m))) e) } := by
  have hnle : ¬ n + m ≤ c' := by omega
  have hmax : ¬ ((n + m : Nat) : Int) > IntKind.i64.max := by
    have : IntKind.i64.max = 9223372036854775807 := by decide
    rw [this]
    omega
  have hcap := cap_le hsm hgt hb
  have hch : (choose (.appendCap (n + m) c' e)).run P w = .ok ((Question.appendCap (n + m) c' e).cut (w.tape w.drawn (.appendCap (n + m) c' e))) { w with drawn := w.drawn + 1 } := by
    rw [run_choose]
    simp only [Question.forced, Bool.false_eq_true, if_false]
  obtain ⟨k, hk⟩ : ∃ k, k = (Question.appendCap (n + m) c' e).cut (w.tape w.drawn (.appendCap (n + m) c' e)) := ⟨_, rfl⟩
  rw [← hk] at hch
  refine ⟨k, by rw [hk]; exact Nat.le_add_right _ _, ?_⟩
  cases hN with
  | ints hu hx hm hz1 hs hc =>
    subst hx hc
    have e1 : IntKind.i64.wrap (Int.ofNat m) = (m : Int) := wrap_small hm
    have hbig : ¬ ((m : Int) * (i.bytes : Int) > 2 ^ 48) := by
      have : m * i.bytes ≤ 16777216 * 65536 := Nat.mul_le_mul hm hb
      have h4 : ((m * i.bytes : Nat) : Int) ≤ ((16777216 * 65536 : Nat) : Int) := Int.ofNat_le.2 this
      rw [Int.natCast_mul] at h4
      exact Int.not_lt.2 (Int.le_trans h4 (by decide))
    have hneg : ¬ ((m : Int) < 0) := by omega
    cases hN2 with
    | ints hu2 hx2 hm2 hz2 hs2 hc2 =>
      subst hc2
      unfold Builtin.append_
      simp only [h0, h1, List.getElem?_toArray, List.getElem?_cons_zero, List.getElem?_cons_succ, Sem.run_bind, run_underlying hu0, Result.andThen_ok, run_sizeOf' hi, run_underlying hu, Sem.run_pure, if_true, asInt, asIntOf, e1, if_neg hneg, run_typeInfo' hi, if_neg hbig, Int.toNat_natCast, if_neg hnle, Bool.not_true, Bool.false_eq_true, if_false, hmax, false_and, if_neg hcap, hch, run_askRoom, hold]
      rw [zc_run hz2 hs2]
      simp only [Result.andThen_ok, hz, run_newRow]
    | els hu2 hd2 _ _ => rw [hu] at hu2; cases hu2; exact (hd2 _ rfl).elim
  | els hu hd hl hf =>
    rename_i d
    have hm : (match d with | .int _ => true | _ => false) = false := by cases d <;> first | rfl | exact (hd _ rfl).elim
    cases hN2 with
    | ints hu2 _ _ _ _ _ => rw [hu] at hu2; cases hu2; exact (hd _ rfl).elim
    | els hu2 hd2 hl2 hf2 =>
      unfold Builtin.append_
      simp only [h0, h1, List.getElem?_toArray, List.getElem?_cons_zero, List.getElem?_cons_succ, Sem.run_bind, run_underlying hu0, Result.andThen_ok, run_sizeOf' hi, run_underlying hu, Sem.run_pure, hm, Bool.false_eq_true, if_false, hl, if_neg hnle, Bool.not_false, if_true, hmax, false_and, if_neg hcap, run_typeInfo' hi, hch, run_askRoom, hold, hf2, hz, run_newRow]
end
end Go.Proofs.YtpfmjagbjdkdcaaGreatDoor.Am
