/- Operations that write: cells, copies, appends. -/
import Derived.Test.YtpfmjagbjdkdcaaGreatDoorAmL
set_option linter.unusedSimpArgs false
set_option linter.unusedVariables false
namespace Go.Proofs.YtpfmjagbjdkdcaaGreatDoor.Am
open Go.Proofs.YtpfmjagbjdkdcaaGreatDoor Go.RowKit

section
variable {P : Program} {base gm : Nat} {f : Ren} {A : AS} {w : World}
theorem oneC_ok {v v' : Value} (h : VR f v v') (hv : oneC v = true) : v'.oneCell' = true := by
  cases h <;> first | rfl | cases hv
theorem setCell_heap {b o : Nat} {cs : Array Value} {t : TypeId} {fz : Nat × Nat} (w : World) (hw : w.heap[b]? = some (.cells cs t fz)) (v : Value) :
    w.setCell ⟨b, o, none⟩ v = { w with heap := w.heap.setIfInBounds b (.cells (cs.setIfInBounds o v) t fz) } := by
  unfold World.setCell
  simp only [World.mk.injEq, and_true]
  apply Array.ext_getElem?
  intro i
  rw [Array.getElem?_modify, Array.getElem?_setIfInBounds]
  by_cases hi : b = i
  · subst hi
    rw [if_pos rfl, if_pos rfl, hw, if_pos (Array.getElem?_eq_some_iff.1 hw).1]
    rfl
  · rw [if_neg hi, if_neg hi]
theorem storeCells_run {b o : Nat} {t : TypeId} {fz : Nat × Nat} : ∀ (vs : List Value) (i : Nat) (cs : Array Value) (w : World), w.heap[b]? = some (.cells cs t fz) → o + i + vs.length ≤ cs.size →
    (∀ j, j < cs.size → ¬ (fz.1 ≤ j ∧ j < fz.2)) → (∀ v ∈ vs, v.oneCell' = true) →
    (storeCells ⟨b, o, none⟩ vs i).run P w = .ok () { w with heap := w.heap.setIfInBounds b (.cells (setL cs.toList (o + i) vs).toArray t fz) }
  | [], i, cs, w, hw, _, _, _ => by
    simp only [storeCells, Sem.run_pure, setL]
    congr 1
    cases w
    simp only [World.mk.injEq, and_true]
    apply Array.ext_getElem?
    intro k
    rw [Array.getElem?_setIfInBounds]
    by_cases hk : b = k
    · subst hk
      rw [if_pos rfl, if_pos (Array.getElem?_eq_some_iff.1 hw).1, hw]
    · rw [if_neg hk]
  | v :: vs, i, cs, w, hw, hle, hfz, hone => by
    rw [List.length_cons] at hle
    have hc : w.cell? ⟨b, o + i, none⟩ = cs[o + i]? := by
      unfold World.cell?
      rw [hw]
      rfl
    have hsome : cs[o + i]? = some (cs[o + i]'(by omega)) := Array.getElem?_eq_getElem _
    have hnf : w.frozen? ⟨b, o + i, none⟩ = false := by
      unfold World.frozen?
      rw [hw]
      have := hfz (o + i) (by omega)
      simp only [Bool.and_eq_false_iff, decide_eq_false_iff_not]
      omega
    have hlt := (Array.getElem?_eq_some_iff.1 hw).1
    rw [storeCells]
    simp only [Sem.run_bind, addr_add]
    rw [run_store P w _ v .plain (hone v (by simp)), hc, hsome]
    simp only [hnf, Bool.false_eq_true, if_false, Result.andThen_ok]
    rw [setCell_heap w hw v]
    rw [storeCells_run (t := t) (fz := fz) vs (i + 1) (cs.setIfInBounds (o + i) v) _ (by rw [Array.getElem?_setIfInBounds]; simp [hlt]) (by rw [Array.size_setIfInBounds]; omega) (by rw [Array.size_setIfInBounds]; exact hfz) (fun x hx => hone x (by simp [hx]))]
    simp only [setL, Array.setIfInBounds_setIfInBounds, Array.toList_setIfInBounds, Nat.add_assoc]
/-- A row and a row that holds it from some place on. -/
def SR (f : Ren) (d : Nat) (x x' : List Value) : Prop := ∀ (i : Nat) (v : Value), x[i]? = some v → ∃ v', x'[i + d]? = some v' ∧ VR f v v'
theorem SR.set {d : Nat} {x x' : List Value} (h : SR f d x x') (o : Nat) {v v' : Value} (k : VR f v v') : SR f d (x.set o v) (x'.set (o + d) v') := fun i u hu => by
  rw [List.getElem?_set] at hu
  by_cases e : o = i
  · subst e
    rw [if_pos rfl] at hu
    split at hu
    · rename_i hlt
      cases hu
      obtain ⟨u', h1, _⟩ := h o _ (List.getElem?_eq_getElem hlt)
      exact ⟨v', by rw [List.getElem?_set, if_pos rfl, if_pos (List.getElem?_eq_some_iff.1 h1).1], k⟩
    · cases hu
  · rw [if_neg e] at hu
    obtain ⟨u', h1, h2⟩ := h i u hu
    exact ⟨u', by rw [List.getElem?_set, if_neg (by omega)]; exact h1, h2⟩
theorem SR.setL {d : Nat} : ∀ (vs vs' x x' : List Value) (o : Nat), SR f d x x' → LR f vs vs' → SR f d (setL x o vs) (setL x' (o + d) vs')
  | [], [], _, _, _, h, _ => h
  | [], _ :: _, _, _, _, _, k => by have := k.1; simp at this
  | _ :: _, [], _, _, _, _, k => by have := k.1; simp at this
  | v :: vs, v' :: vs', x, x', o, h, k => by
    obtain ⟨a, b⟩ := k.tail
    have := SR.setL vs vs' _ _ (o + 1) (h.set o a) b
    rw [Nat.add_right_comm] at this
    exact this
theorem stC_ok (hW : WR base gm f A w) {a a' : Addr} (ha : AR f a a') {vs vs' : List Value} (hv : LR f vs vs') {A' : AS} (h : stC gm A a vs = some A') :
    ∃ w', (storeCells a' vs').run P w = .ok () w' ∧ Step base gm f A w f A' w' ∧ A'.nx = A.nx := by
  have key : vs = [] ∨ a.spot = none ∧ (match A.h.get a.block with
    | some (.cells cs t fz so) => match Nat.ble gm a.block, Nat.ble (a.off + vs.length) cs.length, Nat.ble fz.2 fz.1 || Nat.ble cs.length fz.1, vs.all oneC with
      | true, true, true, true => some (Am.put A a.block (some (.cells (setL cs a.off vs) t fz so)))
      | _, _, _, _ => none
    | _ => none) = some A' := by
    unfold stC at h
    split at h
    · exact .inl rfl
    · rename_i hsp
      exact .inr ⟨hsp, h⟩
    · cases h
  rcases key with rfl | ⟨hsp, h⟩
  · cases h
    obtain rfl : vs' = [] := by have := hv.1; simpa using this.symm
    exact ⟨w, by simp [storeCells], Step.refl hW, rfl⟩
  · skip
    split at h
    · rename_i cs t fz so hg
      split at h
      · rename_i h1 h2 h3 h4
        cases h
        have h1 := Nat.le_of_ble_eq_true h1
        have h2 := Nat.le_of_ble_eq_true h2
        have h3 : fz.2 ≤ fz.1 ∨ cs.length ≤ fz.1 := by
          simp only [Bool.or_eq_true] at h3
          exact h3.imp Nat.le_of_ble_eq_true Nat.le_of_ble_eq_true
        obtain ⟨l, hl, ha'⟩ := ha
        obtain ⟨l2, hl2, ho⟩ := hW.ob _ _ hg
        rw [hl] at hl2
        cases hl2
        rw [hsp] at ha'
        have hone : ∀ x ∈ vs', x.oneCell' = true := fun x hx => by
          obtain ⟨i, hi, e⟩ := List.mem_iff_getElem.1 hx
          have hi2 : i < vs.length := by rw [hv.1]; exact hi
          have := hv.2 i _ _ (List.getElem?_eq_getElem hi2) (List.getElem?_eq_getElem hi)
          rw [← e]
          exact oneC_ok this (List.all_eq_true.1 h4 _ (List.getElem_mem _))
        cases ho with
        | hard hw hr =>
          rename_i cs' b
          have hsz : cs'.size = cs.length := by rw [hr.1]; simp
          have hrun := storeCells_run (P := P) (b := b) (o := a.off) (t := t) (fz := fz) vs' 0 cs' w hw (by rw [hsz, ← hv.1]; omega) (fun j hj h => by rw [hsz] at hj; omega) hone
          have ea : a' = ⟨b, a.off, none⟩ := by rw [ha']; rfl
          rw [ea]
          refine ⟨_, hrun, Step.write hW hg hl h1 rfl ⟨rfl, rfl, rfl⟩ (.hard (cs' := (setL cs'.toList (a.off + 0) vs').toArray) ?_ ?_), rfl⟩
          · show (w.heap.setIfInBounds b _)[b]? = _
            rw [Array.getElem?_setIfInBounds]
            simp [(Array.getElem?_eq_some_iff.1 hw).1]
          · exact LR.setL hr _ _ _ hv
        | @soft _ cs' _ fz' b d _ T T' hw hs hT hT' hle hfz hr =>
          have hrun := storeCells_run (P := P) (b := b) (o := a.off + d) (t := t) (fz := fz') vs' 0 cs' w hw (by rw [← hv.1]; omega) (by rw [hT']; exact hfz) hone
          have ea : a' = ⟨b, a.off + d, none⟩ := by rw [ha']
          rw [ea]
          refine ⟨_, hrun, Step.write hW hg hl h1 rfl ⟨rfl, rfl, rfl⟩ (.soft (cs' := (setL cs'.toList (a.off + d + 0) vs').toArray) (fz' := fz') ?_ hs (by rw [setL_len]; exact hT) (by simp [setL_len, hT']) hle hfz ?_), rfl⟩
          · show (w.heap.setIfInBounds b _)[b]? = _
            rw [Array.getElem?_setIfInBounds]
            simp [(Array.getElem?_eq_some_iff.1 hw).1]
          · have hR : SR f d cs cs'.toList := fun i v hi => by
              obtain ⟨v', e, hv⟩ := hr i v hi
              exact ⟨v', by simpa using e, hv⟩
            intro i v hi
            obtain ⟨v', e, hv'⟩ := SR.setL _ _ _ _ _ hR hv i v hi
            exact ⟨v', by simpa using e, hv'⟩
        | obj _ ho => cases ho
      · cases h
    · cases h
end
end Go.Proofs.YtpfmjagbjdkdcaaGreatDoor.Am
