/- Copies, marks, texts that take rows over; maps. -/
import Derived.Test.YtpfmjagbjdkdcaaGreatDoorAmO
set_option linter.unusedSimpArgs false
set_option linter.unusedVariables false
namespace Go.Proofs.YtpfmjagbjdkdcaaGreatDoor.Am
open Go.Proofs.YtpfmjagbjdkdcaaGreatDoor Go.RowKit

section
variable {P : Program} {base gm : Nat} {f : Ren} {A : AS} {w w1 : World}
theorem eCopy_ok (hW : WR base gm f A w) {ts : Array TypeId} {ty : TypeId} {d d' s s' v : Value} (hd : VR f d d') (hs : VR f s s') {A' : AS} (h : eCopy P gm ts d s A = some (v, A')) :
    ∃ w', (Builtin.copy_ ts ty #[d', s']).run P w = .ok v w' ∧ Step base gm f A w f A' w' ∧ VR f v v := by
  unfold eCopy at h
  split at h
  · rename_i t0 ht0
    split at h
    · rename_i e b dn dc sn hu hls
      split at h
      · rename_i i hi
        split at h
        · rename_i cs hc
          obtain ⟨cs', hr, hl⟩ := srcC_ok (P := P) hW hs hc
          have hlen := lenA_ok (P := P) hs hls w
          split at h
          · cases h
            cases hd
            refine ⟨w, ?_, Step.refl hW, .int _ _⟩
            simp only [Builtin.copy_, ht0, List.getElem?_toArray, List.getElem?_cons_zero, List.getElem?_cons_succ, Sem.run_bind, run_underlying hu, Result.andThen_ok, hlen, run_sizeOf' hi, hr, Sem.run_pure]
          · rename_i a
            split at h
            · rename_i A2 hst
              cases h
              obtain ⟨a', c', rfl, ha, _⟩ := hd.slice_inv
              have key : ∃ w', (storeCells a' cs').run P w = .ok () w' ∧ Step base gm f A w f A' w' := by
                by_cases hn : dn = 0
                · have hcs : cs = [] := by
                    unfold srcC at hc
                    split at hc
                    · rw [show Nat.min sn dn = 0 by rw [hn]; exact Nat.min_zero _] at hc
                      simp only [Nat.beq] at hc
                      cases hc; rfl
                    · cases hc; rfl
                    · rw [show Nat.min sn dn = 0 by rw [hn]; exact Nat.min_zero _] at hc
                      cases hc
                      simp
                    · cases hc
                  subst hcs
                  obtain rfl : cs' = [] := by have := hl.1; simpa using this.symm
                  have : A' = A := by unfold stC at hst; cases hst; rfl
                  subst this
                  exact ⟨w, by simp [storeCells], Step.refl hW⟩
                · obtain ⟨w', h1, h2, _⟩ := stC_ok (P := P) hW (ha hn) hl hst
                  exact ⟨w', h1, h2⟩
              obtain ⟨w', h1, h2⟩ := key
              refine ⟨w', ?_, h2, .int _ _⟩
              simp only [Builtin.copy_, ht0, List.getElem?_toArray, List.getElem?_cons_zero, List.getElem?_cons_succ, Sem.run_bind, run_underlying hu, Result.andThen_ok, hlen, run_sizeOf' hi, hr, h1, Sem.run_pure]
            · cases h
        · cases h
      · cases h
    · cases h
  · cases h
theorem eMark_ok (hW : WR base gm f A w) {s d : TypeId} {x x' v : Value} (hx : VR f x x') {A' : AS} (h : eMark P gm s d x A = some (v, A')) :
    ∃ v' w', (convert s d x').run P w = .ok v' w' ∧ Step base gm f A w f A' w' ∧ VR f v v' := by
  unfold eMark at h
  split at h
  · rename_i e0 e a n c hs hd
    split at h
    · rename_i cs t he hg hb hsp
      cases h
      simp only [Bool.and_eq_true] at hb
      obtain rfl := beq_t hb.1
      have hgk := Nat.le_of_ble_eq_true hb.2
      obtain ⟨a', rfl, ha⟩ := hx.hard_inv hsp
      obtain ⟨l, hl, ha'⟩ := ha
      obtain ⟨l2, hl2, ho⟩ := hW.ob _ _ hg
      rw [hl] at hl2
      cases hl2
      cases ho with
      | hard hw hr =>
        rename_i cs' b
        have hsz : cs'.size = cs.length := by rw [hr.1]; simp
        have hlt := (Array.getElem?_eq_some_iff.1 hw).1
        have hab : a'.block = b := by rw [ha']
        have hfr : (w.freeze { block := a'.block, off := cs'.size } 1) = { w with heap := w.heap.setIfInBounds b (.cells cs' t (cs'.size, cs'.size + 1)) } := by
          unfold World.freeze
          rw [if_neg (by decide)]
          simp only [World.mk.injEq, and_true]
          apply Array.ext_getElem?
          intro i
          rw [Array.getElem?_modify, Array.getElem?_setIfInBounds, hab]
          by_cases hi : b = i
          · subst hi
            rw [if_pos rfl, if_pos rfl, hw, if_pos hlt]
            rfl
          · rw [if_neg hi, if_neg hi]
        refine ⟨.slice (some a') n c, { w with heap := w.heap.setIfInBounds b (.cells cs' t (cs'.size, cs'.size + 1)) }, ?_, ?_, .sl ⟨_, hl, ha'⟩ hsp⟩
        · have hsh : w.shape? a'.block = some (t, cs'.size) := by unfold World.shape?; rw [hab, hw]
          rw [hs] at hd
          cases hd
          simp only [convert, Sem.run_bind, run_underlying hs, Result.andThen_ok, run_underlying he, beq_self_eq_true, markStringish, run_shape, hsh, run_freeze, hfr, Sem.run_pure]
        · refine Step.write hW hg hl hgk rfl ⟨rfl, rfl, rfl⟩ ?_
          rw [← hsz]
          exact .hard (by show (w.heap.setIfInBounds b _)[b]? = _; rw [Array.getElem?_setIfInBounds]; simp [hlt]) hr
      | soft _ hs0 _ _ _ _ _ => exact absurd hs0 (Nat.lt_irrefl 0)
      | obj _ ho => cases ho
    · cases h
  · cases h
/-- A block is gone, whatever has become of it. -/
theorem Step.lose (hW : WR base gm f A w) {k : Nat} {o : AObj} {l : Loc} {ob : Obj} (hk : A.h.get k = some o) (hl : f k = some l) (hg : gm ≤ k) (hw : w1.heap = w.heap.setIfInBounds l.blk ob)
    (hos : w1.os = w.os ∧ w1.tape = w.tape ∧ w1.output = w.output) : Step base gm f A w f ⟨HT.set 64 A.h k none, A.nx⟩ w1 := by
  have hget := hW.get_set hk none
  have hother : ∀ b, b ≠ l.blk → w1.heap[b]? = w.heap[b]? := fun b hb => by rw [hw, Array.getElem?_setIfInBounds_ne (fun e => hb e.symm)]
  have hsize : w1.heap.size = w.heap.size := by rw [hw, Array.size_setIfInBounds]
  have hK := hW.kill hk
  have hsub : ∀ m o2, (HT.set 64 A.h k none).get m = some o2 → m ≠ k ∧ A.h.get m = some o2 := fun m o2 h => by
    rw [hget] at h
    by_cases e : m = k
    · rw [if_pos e] at h; cases h
    · rw [if_neg e] at h; exact ⟨e, h⟩
  refine ⟨fun _ _ => rfl, Nat.le_refl _, ⟨hos.1, hos.2.1, hos.2.2, by rw [hsize]; exact Nat.le_refl _, fun b hb hn => hother b fun e => hn ⟨k, o, l, hg, hk, hl, e.symm⟩⟩, fun b ⟨m, o2, l2, h1, h2, h3, h4⟩ => ?_, ?_⟩
  · exact .inr ⟨m, o2, l2, h1, (hsub m o2 h2).2, h3, h4⟩
  · exact ⟨fun m o2 h => by
      obtain ⟨h1, h2⟩ := hsub m o2 h
      obtain ⟨l2, h3, h4⟩ := hW.ob m o2 h2
      exact ⟨l2, h3, h4.mono (.refl _) (hother _ fun e => h1 (hW.inj m k _ _ _ _ h2 hk h3 hl e))⟩, hK.inj, hK.low, hK.lt, hK.fr, hK.gl, hK.gm, by rw [hsize]; exact hK.sz, hK.nb⟩
theorem loadBytes_run {b : Nat} : ∀ (r : List Int) (o : Nat) (acc : ByteArray), (∀ j n, r[j]? = some n → w.cell? ⟨b, o + j, none⟩ = some (.int .u8 n)) →
    (loadBytes ⟨b, o, none⟩ acc r.length).run P w = .ok ⟨(acc.data.toList ++ r.map fun n => n.toNat.toUInt8).toArray⟩ w
  | [], o, acc, _ => by simp [loadBytes]
  | n :: r, o, acc, h => by
    have h0 := h 0 n rfl
    rw [Nat.add_zero] at h0
    rw [List.length_cons, loadBytes]
    simp only [Sem.run_bind, run_load, h0, Result.andThen_ok, addr_add]
    rw [loadBytes_run r (o + 1) _ (fun j m hj => by rw [show o + 1 + j = o + (j + 1) by omega]; exact h (j + 1) m (by simpa using hj))]
    simp [ByteArray.push]
theorem liesAt_byte {t u : TypeId} {cells off n : Nat} (h1 : P.cellsOf t = 1) (h2 : P.underlyingId t = P.underlyingId u) (hle : off + n ≤ cells) : liesAt P P.depth t (cells / P.cellsOf t) off u n = true := by
  have hd : P.depth = (2 * (P.types.size + Made.depth) + 1) + 1 := rfl
  have hs : sameLayout P P.depth t u = true := by
    rw [hd, sameLayout]
    simp [h2]
  have hr : rowAt P (sameLayout P P.depth · u) P.depth t (cells / P.cellsOf t) off n = true := by
    obtain ⟨D, hD⟩ : ∃ D, D = 2 * (P.types.size + Made.depth) + 1 := ⟨_, rfl⟩
    rw [← hD] at hd
    have : rowAt P (sameLayout P P.depth · u) (D + 1) t (cells / P.cellsOf t) off n = true := by
      rw [rowAt]
      simp only [h1, Nat.div_one, Nat.mod_one]
      simp [hs, hle]
    rw [← hd] at this
    exact this
  obtain ⟨D, hD⟩ : ∃ D, D = 2 * (P.types.size + Made.depth) + 1 := ⟨_, rfl⟩
  rw [← hD] at hd
  rw [hd] at hr ⊢
  rw [liesAt]
  rw [hd] at *
  simp only [hr, Bool.true_or]
theorem eText_ok (hW : WR base gm f A w) {ts : Array TypeId} {ty : TypeId} {x x' n n' v : Value} (hx : VR f x x') (hn : VR f n n') {A' : AS} (h : eText P gm ts x n A = some (v, A')) :
    ∃ w', (Builtin.unsafeString_ ts ty #[x', n']).run P w = .ok v w' ∧ Step base gm f A w f A' w' ∧ VR f v v := by
  unfold eText at h
  split at h
  · rename_i t0 a k m ht0
    obtain rfl := hn.int_inv
    obtain ⟨a', rfl, ha⟩ := hx.ptr_inv
    split at h
    · rename_i u cs t fz so hu hsp hg
      split at h
      · rename_i r hb hr
        cases h
        simp only [Bool.and_eq_true] at hb
        have h1 := beq_t hb.1.1.1.1
        have h2 := beq_t hb.1.1.1.2
        have h3 := Nat.le_of_ble_eq_true hb.1.1.2
        have hgk := Nat.le_of_ble_eq_true hb.1.2
        have h5 := Nat.le_of_ble_eq_true hb.2
        have hbytes := bytesOf_ok _ _ hr
        have hlen : r.length = m + 1 := by
          have := congrArg List.length hbytes
          rw [List.length_map, List.length_take, List.length_drop] at this
          omega
        have hcells : ∀ j q, r[j]? = some q → w.cell? ⟨a'.block, a'.off + j, none⟩ = some (.int .u8 q) := fun j q hj => by
          have hj2 : ((cs.drop a.off).take (m + 1))[j]? = some (.int .u8 q) := by rw [hbytes, List.getElem?_map, hj]; rfl
          rw [List.getElem?_take] at hj2
          split at hj2
          · rw [List.getElem?_drop] at hj2
            obtain ⟨v', h6, h7⟩ := cell_ok (j := j) hW ha (v := .int .u8 q) (by unfold cell; rw [hsp]; dsimp only; rw [hg]; exact hj2)
            rw [h6, h7.int_inv]
          · cases hj2
        obtain ⟨l, hl, ha'⟩ := ha
        rw [hsp] at ha'
        obtain ⟨l2, hl2, ho⟩ := hW.ob _ _ hg
        rw [hl] at hl2
        cases hl2
        have hrow : ∃ (arr : Array Value) (fz' : Nat × Nat), w.heap[l.blk]? = some (.cells arr t fz') ∧ a'.off + (m + 1) ≤ arr.size := by
          cases ho with
          | hard hw hr2 => exact ⟨_, _, hw, by rw [ha']; have := hr2.1; simp at this; dsimp only; omega⟩
          | soft hw hs hT hT' hle hfz hr2 => exact ⟨_, _, hw, by rw [ha']; dsimp only; omega⟩
          | obj _ ho => cases ho
        obtain ⟨arr, fz', hw, hle⟩ := hrow
        have hlt := (Array.getElem?_eq_some_iff.1 hw).1
        have hab : a'.block = l.blk := by rw [ha']
        have ea : a' = ⟨a'.block, a'.off, none⟩ := by rw [ha']
        have hsh : w.shape? a'.block = some (t, arr.size) := by unfold World.shape?; rw [hab, hw]
        have hva : (variablesAt a' u (m + 1)).run P w = .ok true w := by
          unfold variablesAt
          simp only [Sem.run_bind, run_program, Result.andThen_ok, run_shape, hsh, Sem.run_pure, liesAt_byte h1 h2 hle]
        have hlb : (loadBytes a' .empty (m + 1)).run P w = .ok ⟨(r.map fun n => n.toNat.toUInt8).toArray⟩ w := by
          rw [ea, ← hlen, loadBytes_run r _ _ hcells]
          rfl
        obtain ⟨ob, hfr⟩ : ∃ ob, w.freeze a' (m + 1) = { w with heap := w.heap.setIfInBounds l.blk ob } := by
          refine ⟨.cells arr t (if fz'.1 == fz'.2 then (a'.off, a'.off + (m + 1)) else (min fz'.1 a'.off, max fz'.2 (a'.off + (m + 1)))), ?_⟩
          unfold World.freeze
          rw [if_neg (by omega)]
          simp only [World.mk.injEq, and_true]
          apply Array.ext_getElem?
          intro i
          rw [Array.getElem?_modify, Array.getElem?_setIfInBounds, hab]
          by_cases hi : l.blk = i
          · subst hi
            rw [if_pos rfl, if_pos rfl, hw, if_pos hlt]
            rfl
          · rw [if_neg hi, if_neg hi]
        refine ⟨w.freeze a' (m + 1), ?_, Step.lose hW hg hl hgk (by rw [hfr]) (by rw [hfr]; exact ⟨rfl, rfl, rfl⟩), .str _⟩
        have hneg : ¬ (Int.ofNat (m + 1) < 0) := by simp; omega
        have hmx : ¬ (Int.ofNat (m + 1) > IntKind.i64.max) := by
          have : IntKind.i64.max = 9223372036854775807 := by decide
          rw [this]
          simp
          omega
        have hz0 : ¬ (Int.ofNat (m + 1) = 0) := by simp; omega
        have htn : (Int.ofNat (m + 1)).toNat = m + 1 := rfl
        have e : Builtin.unsafeString_ ts ty #[.pointer (some a'), .int k (.ofNat (m + 1))] = (do
            let n ← asInt (.int k (.ofNat (m + 1)))
            let some pt := ts[0]? | stuck "unsafe.String: no argument types"
            if n < 0 then runtimePanic (.error "unsafe.String: len out of range")
            if n > IntKind.i64.max then unsupported (.unsafePointer "String: a length above the largest int")
            if n = 0 then pure (.string .empty)
            else if ← variablesAt a' (← elemOf pt) n.toNat then do
              let s ← loadBytes a' .empty n.toNat
              freeze a' n.toNat
              pure (.string s)
            else unsupported (.unsafePointer "String: not so many bytes at ptr")) := rfl
        rw [e]
        simp only [asInt, asIntOf, Sem.run_bind, Sem.run_pure, Result.andThen_ok, ht0, if_neg hneg, if_neg hmx, if_neg hz0, elemOf, run_underlying hu, htn, hva, if_true, hlb, run_freeze]
      · cases h
    · cases h
  · cases h
end
end Go.Proofs.YtpfmjagbjdkdcaaGreatDoor.Am
