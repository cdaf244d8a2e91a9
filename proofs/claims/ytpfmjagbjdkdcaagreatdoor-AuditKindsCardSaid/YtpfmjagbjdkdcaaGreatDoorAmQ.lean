/- Maps; iterators. -/
import Derived.Test.YtpfmjagbjdkdcaaGreatDoorAmP
set_option linter.unusedSimpArgs false
set_option linter.unusedVariables false
namespace Go.Proofs.YtpfmjagbjdkdcaaGreatDoor.Am
open Go.Proofs.YtpfmjagbjdkdcaaGreatDoor Go.RowKit

section
variable {P : Program} {base gm : Nat} {f : Ren} {A : AS} {w w1 : World}
abbrev ER (f : Ren) (e : Value × Value × Nat) (e' : MapEntry) : Prop := VR f e.1 e'.key ∧ VR f e.2.1 e'.val ∧ e.2.2 = e'.born
abbrev MR (f : Ren) (es : List (Value × Value × Nat)) (es' : Array MapEntry) : Prop := es.length = es'.size ∧ ∀ (i : Nat) (e : Value × Value × Nat) (e' : MapEntry), es[i]? = some e → es'[i]? = some e' → ER f e e'
theorem modL_get {α : Type} (g : α → α) : ∀ (l : List α) (i j : Nat), (modL g l i)[j]? = if j = i then (l[i]?).map g else l[j]?
  | [], i, j => by simp [modL]
  | a :: l, 0, j => by
    cases j with
    | zero => rfl
    | succ j => rfl
  | a :: l, i + 1, j => by
    cases j with
    | zero => rfl
    | succ j => simpa [modL] using modL_get g l i j
theorem modL_len {α : Type} (g : α → α) : ∀ (l : List α) (i : Nat), (modL g l i).length = l.length
  | [], _ => rfl
  | _ :: _, 0 => rfl
  | _ :: l, i + 1 => by simp [modL, modL_len g l i]
theorem MR.mod {es : List (Value × Value × Nat)} {es' : Array MapEntry} (h : MR f es es') {g : Value × Value × Nat → Value × Value × Nat} {g' : MapEntry → MapEntry} (i : Nat) (hg : ∀ e e', es[i]? = some e → es'[i]? = some e' → ER f (g e) (g' e')) : MR f (modL g es i) (es'.modify i g') := by
  refine ⟨by rw [modL_len, Array.size_modify]; exact h.1, fun j e e' ha hb => ?_⟩
  rw [modL_get] at ha
  rw [Array.getElem?_modify] at hb
  by_cases hj : j = i
  · subst hj
    rw [if_pos rfl] at ha hb
    cases hx : es[j]? with
    | none => rw [hx] at ha; cases ha
    | some x =>
      cases hy : es'[j]? with
      | none => rw [hy] at hb; cases hb
      | some y =>
        rw [hx] at ha
        rw [hy] at hb
        cases ha
        cases hb
        exact hg x y hx hy
  · rw [if_neg hj] at ha
    rw [if_neg (fun e => hj e.symm)] at hb
    exact h.2 j e e' ha hb
theorem MR.push {es : List (Value × Value × Nat)} {es' : Array MapEntry} (h : MR f es es') {e : Value × Value × Nat} {e' : MapEntry} (he : ER f e e') : MR f (es ++ [e]) (es'.push e') := by
  refine ⟨by simp [h.1], fun j a b ha hb => ?_⟩
  rw [Array.getElem?_push] at hb
  by_cases hj : j = es'.size
  · rw [if_pos hj] at hb
    rw [hj, ← h.1, List.getElem?_append_right (Nat.le_refl _), Nat.sub_self] at ha
    cases ha
    cases hb
    exact he
  · rw [if_neg hj] at hb
    have := (Array.getElem?_eq_some_iff.1 hb).1
    rw [List.getElem?_append_left (by rw [h.1]; exact this)] at ha
    exact h.2 j a b ha hb
theorem mapObj (hW : WR base gm f A w) {r : Nat} {es : List (Value × Value × Nat)} {c : Nat} (hg : A.h.get r = some (.map es c)) :
    ∃ l es', f r = some l ∧ l = ⟨l.blk, 0, none⟩ ∧ w.heap[l.blk]? = some (.map es' c) ∧ MR f es es' := by
  obtain ⟨l, hl, ho⟩ := hW.ob _ _ hg
  cases ho with
  | obj hw ho =>
    cases ho with
    | map hs hk => exact ⟨_, _, hl, rfl, hw, hs, hk⟩
theorem Step.obj (hW : WR base gm f A w) {r : Nat} {o o1 : AObj} {l : Loc} {o' : Obj} (hk : A.h.get r = some o) (hl : f r = some l) (hl2 : l = ⟨l.blk, 0, none⟩) (hg : gm ≤ r) (hlt : l.blk < w.heap.size) (ho : OR f o1 o') :
    Step base gm f A w f (Am.put A r (some o1)) { w with heap := w.heap.setIfInBounds l.blk o' } := by
  refine Step.write hW hk hl hg rfl ⟨rfl, rfl, rfl⟩ ?_
  rw [hl2]
  exact .obj (by show (w.heap.setIfInBounds _ _)[_]? = _; rw [Array.getElem?_setIfInBounds]; simp [hlt]) ho
theorem findL_at {d : TypeDesc} {k : Value} : ∀ (es : List (Value × Value × Nat)) (s i : Nat) (v : Value), findL d k es s = some (some (i, v)) → s ≤ i ∧ ∃ e, es[i - s]? = some e ∧ Instr.sameNow d k e.1 = some true ∧ v = e.2.1
  | [], _, _, _, h => by cases h
  | e :: es, s, i, v, h => by
    rw [findL] at h
    split at h
    · rename_i hs
      cases h
      exact ⟨Nat.le_refl _, e, by simp, hs, rfl⟩
    · obtain ⟨h1, e2, h2, h3⟩ := findL_at es (s + 1) i v h
      exact ⟨by omega, e2, by rw [show i - s = (i - (s + 1)) + 1 by omega]; exact h2, h3⟩
    · cases h
theorem ba_eq {a b : ByteArray} (h : (a == b) = true) : a = b := by
  cases a
  cases b
  rename_i x y
  have h2 : (x == y) = true := h
  rw [eq_of_beq h2]
theorem ba_self (a : ByteArray) : (a == a) = true := by
  cases a
  rename_i x
  show (x == x) = true
  simp
theorem same_bits {d : TypeDesc} {k e : Value} (h : Instr.sameNow d k e = some true) (n : Nat) : Instr.sameBits n e k = true := by
  unfold Instr.sameNow at h
  split at h
  · split at h
    · rename_i hk
      simp only [Option.some.injEq, beq_iff_eq] at h
      subst hk h
      unfold Instr.sameBits
      simp
    · cases h
  · simp only [Option.some.injEq] at h
    obtain rfl := ba_eq h
    unfold Instr.sameBits
    exact ba_self _
  · simp only [Option.some.injEq, beq_iff_eq] at h
    subst h
    unfold Instr.sameBits
    simp
  · cases h
theorem setObj_map {r : Nat} {es : Array MapEntry} {c : Nat} (o : Obj) (h : w.heap[r]? = some (.map es c)) : (setObj r o).run P w = .ok () { w with heap := w.heap.setIfInBounds r o } := by simp [setObj, Sem.run, h]
theorem getObj_map {r : Nat} {es : Array MapEntry} {c : Nat} (h : w.heap[r]? = some (.map es c)) : (getObj r).run P w = .ok (.map es c) w := by simp [getObj, Sem.run, h]
theorem eMapUpdate_ok (hW : WR base gm f A w) {t : TypeId} {m m' k k' v v' u : Value} (hm : VR f m m') (hk : VR f k k') (hv : VR f v v') {A' : AS} (h : eMapUpdate P gm t m k v A = some (u, A')) :
    ∃ w', (Instr.mapUpdate t m' k' v').run P w = .ok () w' ∧ Step base gm f A w f A' w' ∧ u = undef := by
  unfold eMapUpdate at h
  split at h
  · rename_i kt et r hu
    split at h
    · rename_i d es c hd hg hgr
      have hgr := Nat.le_of_ble_eq_true hgr
      obtain ⟨l, es', hl, hl0, hw, hM⟩ := mapObj hW hg
      have hlt := (Array.getElem?_eq_some_iff.1 hw).1
      obtain rfl : m' = .map (some l.blk) := by
        cases hm with
        | map hr => rw [hl] at hr; cases hr; rfl
      split at h
      · rename_i i v0 hs hf
        cases h
        obtain ⟨r', hr, hrel⟩ := findL_ok hk es es'.toList 0 _ (by simpa using hM.1) (fun j a b ha hb => hM.2 j a b ha (by simpa using hb)) hf
        cases r' with
        | none => exact hrel.elim
        | some p =>
          obtain ⟨i', v2⟩ := p
          obtain ⟨rfl, _⟩ := hrel
          obtain ⟨_, e, he, hsame, _⟩ := findL_at es 0 i v0 hf
          rw [Nat.sub_zero] at he
          have hi : i < es'.size := by rw [← hM.1]; exact (List.getElem?_eq_some_iff.1 he).1
          have he' := Array.getElem?_eq_getElem hi
          have hE := hM.2 i e _ he he'
          have hkts : (Instr.keyThatStays (((es'[i]?).map (·.key)).getD k') k').run P w = .ok k' w := by
            rw [he']
            simp only [Instr.keyThatStays, Option.map_some, Option.getD_some]
            rw [if_pos (same_bits (sameNow_ok hk hE.1 hsame) 10000)]
            rfl
          have hMod := hM.mod i (g := fun e => (k, v, e.2.2)) (g' := fun e => { e with key := k', val := v' }) fun a b ha hb => ⟨hk, hv, (hM.2 i a b ha hb).2.2⟩
          refine ⟨_, ?_, Step.obj hW hg hl hl0 hgr hlt (.map hMod.1 hMod.2), rfl⟩
          simp only [Instr.mapUpdate, Sem.run_bind, run_underlying hu, Result.andThen_ok, getObj_map hw, checkKey_ok hd hs, findKey_ok hd hr, hkts, setObj_map _ hw]
      · rename_i hs hf
        cases h
        obtain ⟨r', hr, hrel⟩ := findL_ok hk es es'.toList 0 _ (by simpa using hM.1) (fun j a b ha hb => hM.2 j a b ha (by simpa using hb)) hf
        cases r' with
        | some p => exact hrel.elim
        | none =>
          have hP := hM.push (e := (k, v, c)) (e' := { key := k', val := v', born := c }) ⟨hk, hv, rfl⟩
          refine ⟨_, ?_, Step.obj hW hg hl hl0 hgr hlt (.map hP.1 hP.2), rfl⟩
          simp only [Instr.mapUpdate, Sem.run_bind, run_underlying hu, Result.andThen_ok, getObj_map hw, checkKey_ok hd hs, findKey_ok hd hr, setObj_map _ hw]
      · cases h
    · cases h
  · cases h
theorem eMapEntry_ok (hW : WR base gm f A w) {t : TypeId} {m m' k k' u : Value} (hm : VR f m m') (hk : VR f k k') {A' : AS} (h : eMapEntry P gm t m k A = some (u, A')) :
    ∃ u' w', (Instr.mapEntry t m' k').run P w = .ok u' w' ∧ Step base gm f A w f A' w' ∧ VR f u u' := by
  unfold eMapEntry at h
  split at h
  · rename_i kt et r hu
    split at h
    · rename_i d es c hd hg hgr
      have hgr := Nat.le_of_ble_eq_true hgr
      obtain ⟨l, es', hl, hl0, hw, hM⟩ := mapObj hW hg
      have hlt := (Array.getElem?_eq_some_iff.1 hw).1
      obtain rfl : m' = .map (some l.blk) := by
        cases hm with
        | map hr => rw [hl] at hr; cases hr; rfl
      split at h
      · rename_i i v0 hs hf
        split at h
        · rename_i e0 he0
          cases h
          obtain ⟨r', hr, hrel⟩ := findL_ok hk es es'.toList 0 _ (by simpa using hM.1) (fun j a b ha hb => hM.2 j a b ha (by simpa using hb)) hf
          cases r' with
          | none => exact hrel.elim
          | some p =>
            obtain ⟨i', v2⟩ := p
            obtain ⟨rfl, hv2⟩ := hrel
            obtain ⟨_, e, he, hsame, _⟩ := findL_at es 0 i v0 hf
            rw [Nat.sub_zero] at he
            rw [he] at he0
            cases he0
            have hi : i < es'.size := by rw [← hM.1]; exact (List.getElem?_eq_some_iff.1 he).1
            have he' := Array.getElem?_eq_getElem hi
            have hE := hM.2 i _ _ he he'
            have hkts : (Instr.keyThatStays (((es'[i]?).map (·.key)).getD k') k').run P w = .ok k' w := by
              rw [he']
              simp only [Instr.keyThatStays, Option.map_some, Option.getD_some]
              rw [if_pos (same_bits (sameNow_ok hk hE.1 hsame) 10000)]
              rfl
            have hMod := hM.mod i (g := fun e => (k, e.2)) (g' := fun e => { e with key := k' }) fun a b ha hb => ⟨hk, (hM.2 i a b ha hb).2⟩
            refine ⟨.tuple #[v2, goInt (((es'[i]?).map (·.born)).getD 0)], _, ?_, Step.obj hW hg hl hl0 hgr hlt (.map hMod.1 hMod.2), ?_⟩
            · simp only [Instr.mapEntry, Sem.run_bind, run_underlying hu, Result.andThen_ok, getObj_map hw, checkKey_ok hd hs, findKey_ok hd hr, hkts, setObj_map _ hw, Sem.run_pure]
            · rw [he']
              simp only [Option.map_some, Option.getD_some, ← hE.2.2]
              exact .tuple' (.cons hv2 (.cons (.int _ _) (.nil f)))
        · cases h
      · rename_i hs hf
        split at h
        · rename_i z hz
          cases h
          obtain ⟨hz1, hz2⟩ := zeroA_ok hz
          obtain ⟨r', hr, hrel⟩ := findL_ok hk es es'.toList 0 _ (by simpa using hM.1) (fun j a b ha hb => hM.2 j a b ha (by simpa using hb)) hf
          cases r' with
          | some p => exact hrel.elim
          | none =>
            have hP := hM.push (e := (k, z, c)) (e' := { key := k', val := z, born := c }) ⟨hk, hz2 f, rfl⟩
            refine ⟨.tuple #[z, goInt c], _, ?_, Step.obj hW hg hl hl0 hgr hlt (.map hP.1 hP.2), .tuple' (.cons (hz2 f) (.cons (.int _ _) (.nil f)))⟩
            simp only [Instr.mapEntry, Sem.run_bind, run_underlying hu, Result.andThen_ok, getObj_map hw, checkKey_ok hd hs, findKey_ok hd hr, hz1, setObj_map _ hw, Sem.run_pure]
        · cases h
      · cases h
    · cases h
  · cases h
theorem bornAt_ok : ∀ (es : List (Value × Value × Nat)) (es' : List MapEntry) (b s i : Nat), es.length = es'.length → (∀ (j : Nat) e e', es[j]? = some e → es'[j]? = some e' → e.2.2 = e'.born) → bornAt es b s = some i →
    s ≤ i ∧ es'.findIdx? (fun e => (e.born : Int) == (b : Int)) = some (i - s)
  | [], _, _, _, _, _, _, h => by cases h
  | _ :: _, [], _, _, _, hl, _, _ => by simp at hl
  | e :: es, e' :: es', b, s, i, hl, hr, h => by
    have h0 := hr 0 e e' rfl rfl
    rw [bornAt] at h
    split at h
    · rename_i hb
      have hb := beq_t hb
      cases h
      exact ⟨Nat.le_refl _, by simp [List.findIdx?_cons, ← h0, hb]⟩
    · rename_i hb
      have hb := beq_f hb
      obtain ⟨h1, h2⟩ := bornAt_ok es es' b (s + 1) i (by simpa using hl) (fun j a c ha hc => hr (j + 1) a c (by simpa using ha) (by simpa using hc)) h
      refine ⟨by omega, ?_⟩
      have hne : ¬ ((e'.born : Int) == (b : Int)) = true := by
        rw [← h0]
        simp
        omega
      rw [List.findIdx?_cons, if_neg hne, h2]
      simp
      omega
theorem eEntryStore_ok (hW : WR base gm f A w) {t : TypeId} {m m' s s' v v' u : Value} (hm : VR f m m') (hs : VR f s s') (hv : VR f v v') {A' : AS} (h : eEntryStore gm m s v A = some (u, A')) :
    ∃ w', (Instr.entryStore t m' s' v').run P w = .ok () w' ∧ Step base gm f A w f A' w' ∧ u = undef := by
  unfold eEntryStore at h
  split at h
  · rename_i r k b
    obtain rfl := hs.int_inv
    split at h
    · rename_i es c hg hgr
      have hgr := Nat.le_of_ble_eq_true hgr
      obtain ⟨l, es', hl, hl0, hw, hM⟩ := mapObj hW hg
      have hlt := (Array.getElem?_eq_some_iff.1 hw).1
      obtain rfl : m' = .map (some l.blk) := by
        cases hm with
        | map hr => rw [hl] at hr; cases hr; rfl
      split at h
      · rename_i i hb
        cases h
        obtain ⟨_, h2⟩ := bornAt_ok es es'.toList b 0 i (by simpa using hM.1) (fun j a c ha hc => (hM.2 j a c ha (by simpa using hc)).2.2) hb
        rw [Nat.sub_zero] at h2
        have h3 : es'.findIdx? (fun e => (e.born : Int) == Int.ofNat b) = some i := by
          have e1 : es' = es'.toList.toArray := by simp
          rw [e1, List.findIdx?_toArray]
          exact h2
        have hMod := hM.mod i (g := fun e => (e.1, v, e.2.2)) (g' := fun e => { e with val := v' }) fun a b ha hb => ⟨(hM.2 i a b ha hb).1, hv, (hM.2 i a b ha hb).2.2⟩
        refine ⟨_, ?_, Step.obj hW hg hl hl0 hgr hlt (.map hMod.1 hMod.2), rfl⟩
        simp only [Instr.entryStore, Sem.run_bind, getObj_map hw, Result.andThen_ok, asInt, asIntOf, Sem.run_pure, h3, setObj_map _ hw]
      · cases h
    · cases h
  · cases h
end
end Go.Proofs.YtpfmjagbjdkdcaaGreatDoor.Am
